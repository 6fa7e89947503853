/- Runes of a text: the model's decoding against the form of UTF-8. No condition. -/
import Derived.Test.YtphaholcndhonaaDoorTLexA
import Derived.Test.YtphaholcndhonaaDoorAbI
import Derived.Test.YtphaholcndhonaaDoorAbJ
import Derived.Test.YtphaholcndhonaaDoorAbK
import Derived.Test.YtphaholcndhonaaDoorAbZ
namespace Go.Proofs.YtphaholcndhonaaDoor
open Go Go.RowKit Go.Proofs.YtphaholcndhonaaDoor.Ab
set_option linter.unusedSimpArgs false
set_option linter.unusedVariables false

/-- a byte of a text, as a number -/
def bN (x : Byt) (k : Nat) : Nat := (x.getD k 0).toNat
def ct (x : Byt) (k : Nat) : Prop := k < x.length ∧ bN x k / 64 = 2
instance (x : Byt) (k : Nat) : Decidable (ct x k) := inferInstanceAs (Decidable (_ ∧ _))
def okR (c : Nat) : Prop := c < 0xD800 ∨ (0xE000 ≤ c ∧ c ≤ 0x10FFFF)
instance (c : Nat) : Decidable (okR c) := inferInstanceAs (Decidable (_ ∨ _))
def c2 (x : Byt) : Nat := (bN x 0 % 32) * 64 + bN x 1 % 64
def c3 (x : Byt) : Nat := (bN x 0 % 16) * 4096 + (bN x 1 % 64) * 64 + bN x 2 % 64
def c4 (x : Byt) : Nat := (bN x 0 % 8) * 262144 + (bN x 1 % 64) * 4096 + (bN x 2 % 64) * 64 + bN x 3 % 64
/-- the first rune of a text, and its width -/
def decX (x : Byt) : Nat × Nat :=
  if bN x 0 < 128 then (bN x 0, 1)
  else if bN x 0 / 32 = 6 ∧ ct x 1 then (if 128 ≤ c2 x then (c2 x, 2) else (65533, 1))
  else if (bN x 0 / 16 = 14 ∧ ct x 1) ∧ ct x 2 then (if 2048 ≤ c3 x ∧ okR (c3 x) then (c3 x, 3) else (65533, 1))
  else if ((bN x 0 / 8 = 30 ∧ ct x 1) ∧ ct x 2) ∧ ct x 3 then (if 65536 ≤ c4 x ∧ okR (c4 x) then (c4 x, 4) else (65533, 1))
  else (65533, 1)
theorem okR_iff (c : Nat) : Utf8.valid (c : Int) = true ↔ okR c := by
  unfold Utf8.valid okR
  simp only [Bool.or_eq_true, Bool.and_eq_true, decide_eq_true_eq]
  omega
theorem dec_eq (b : Byt) (i : Nat) (h : i ≤ b.length) : Utf8.decode (strB b) i = decX (b.drop i) := by
  have ha : ∀ k, ((strB b).get! (i + k)).toNat = bN (b.drop i) k := fun k => by
    unfold bN
    rw [List.getD_eq_getElem?_getD, List.getElem?_drop]
    show ((strB b).data[i + k]!).toNat = _
    rw [getElem!_def]
    have e : (strB b).data[i + k]? = b[i + k]? := List.getElem?_toArray ..
    rw [e]
    cases b[i + k]? <;> rfl
  have hs : (strB b).size = b.length := strB_size b
  have hc : ∀ k, (decide (i + k < (strB b).size) && ((strB b).get! (i + k)).toNat / 64 == 2) = decide (ct (b.drop i) k) := fun k => by
    rw [ha, hs, Bool.eq_iff_iff]
    simp only [Bool.and_eq_true, decide_eq_true_eq, beq_iff_eq]
    unfold ct
    rw [List.length_drop]
    omega
  unfold Utf8.decode decX
  simp only [hc]
  simp only [ha, Bool.and_eq_true, decide_eq_true_eq, beq_iff_eq, okR_iff, ge_iff_le]
  rfl
theorem byte_cls : ∀ a : UInt8, (decide (a.toNat < 128) || (decide (128 ≤ a.toNat) && (decide (a.toNat < 194) || decide (245 ≤ a.toNat)) && decide (sz a = 1)) ||
    (decide (194 ≤ a.toNat) && decide (a.toNat ≤ 223) && decide (sz a = 2) && decide (alo a = 128) && decide (ahi a = 191)) ||
    (decide (a.toNat = 224) && decide (sz a = 3) && decide (alo a = 160) && decide (ahi a = 191)) ||
    (decide (225 ≤ a.toNat) && decide (a.toNat ≤ 239) && decide (a.toNat ≠ 237) && decide (sz a = 3) && decide (alo a = 128) && decide (ahi a = 191)) ||
    (decide (a.toNat = 237) && decide (sz a = 3) && decide (alo a = 128) && decide (ahi a = 159)) ||
    (decide (a.toNat = 240) && decide (sz a = 4) && decide (alo a = 144) && decide (ahi a = 191)) ||
    (decide (241 ≤ a.toNat) && decide (a.toNat ≤ 243) && decide (sz a = 4) && decide (alo a = 128) && decide (ahi a = 191)) ||
    (decide (a.toNat = 244) && decide (sz a = 4) && decide (alo a = 128) && decide (ahi a = 143))) = true :=
  byte_all (q := fun _ => true) (by decide +kernel)
theorem bN_lt (x : Byt) (k : Nat) : bN x k < 256 := (x.getD k 0).toNat_lt
theorem bad2_iff (x : Byt) : bad2 x = true ↔ x.length < 2 ∨ bN x 1 < alo (x.getD 0 0) ∨ ahi (x.getD 0 0) < bN x 1 := by
  unfold bad2 bI bN
  simp only [condT_tt, decide_eq_true_eq]
  omega
theorem bad3_iff (x : Byt) : bad3 x = true ↔ x.length < 3 ∨ bN x 1 < alo (x.getD 0 0) ∨ ahi (x.getD 0 0) < bN x 1 ∨ bN x 2 < 128 ∨ 191 < bN x 2 := by
  unfold bad3 bI bN
  simp only [condT_tt, decide_eq_true_eq]
  omega
theorem bad4_iff (x : Byt) : bad4 x = true ↔ x.length < 4 ∨ bN x 1 < alo (x.getD 0 0) ∨ ahi (x.getD 0 0) < bN x 1 ∨ bN x 2 < 128 ∨ 191 < bN x 2 ∨ bN x 3 < 128 ∨ 191 < bN x 3 := by
  unfold bad4 bI bN
  simp only [condT_tt, decide_eq_true_eq]
  omega
/-- the two go together -/
theorem dec_step (x : Byt) : (stepU x = none ∧ decX x = (65533, 1)) ∨ ∃ k, stepU x = some k ∧ (decX x).2 = k ∧ ((decX x).1 = 65533 → k = 3) := by
  have hcl := byte_cls (x.getD 0 0)
  simp only [Bool.or_eq_true, Bool.and_eq_true, decide_eq_true_eq] at hcl
  have h1 := bN_lt x 1
  have h2 := bN_lt x 2
  have h3 := bN_lt x 3
  have hb2 := bad2_iff x
  have hb3 := bad3_iff x
  have hb4 := bad4_iff x
  have e0 : (x.getD 0 0).toNat = bN x 0 := rfl
  unfold stepU decX
  rw [e0] at hcl ⊢
  rcases hcl with (((((((hc | hc) | hc) | hc) | hc) | hc) | hc) | hc) | hc
  · rw [if_pos hc, if_pos hc]
    exact .inr ⟨1, rfl, rfl, fun h => by have h : _ = 65533 := h; simp only [c2, c4] at h; omega⟩
  · rw [if_neg (by first | omega | (simp only [ct, okR, c2, c3, c4]; omega)), if_neg (by first | omega | (simp only [ct, okR, c2, c3, c4]; omega)), if_neg (by first | omega | (simp only [ct, okR, c2, c3, c4]; omega)), if_neg (by first | omega | (simp only [ct, okR, c2, c3, c4]; omega)), if_neg (by first | omega | (simp only [ct, okR, c2, c3, c4]; omega))]
    refine .inl ⟨rfl, ?_⟩
    by_cases hd : bN x 0 / 32 = 6 ∧ ct x 1
    · have hd' := hd
      simp only [ct] at hd'
      rw [if_pos hd, if_neg (by first | omega | (simp only [ct, okR, c2, c3, c4]; omega))]
    · rw [if_neg hd, if_neg (by first | omega | (simp only [ct, okR, c2, c3, c4]; omega))]
      by_cases he : ((bN x 0 / 8 = 30 ∧ ct x 1) ∧ ct x 2) ∧ ct x 3
      · have he' := he
        simp only [ct] at he'
        rw [if_pos he, if_neg (by first | omega | (simp only [ct, okR, c2, c3, c4]; omega))]
      · rw [if_neg he]
  · rw [if_neg (by first | omega | (simp only [ct, okR, c2, c3, c4]; omega)), if_pos (by first | omega | (simp only [ct, okR, c2, c3, c4]; omega))]
    by_cases hb : bad2 x = true
    · have hb' := hb2.1 hb
      rw [if_pos hb, if_neg (by first | omega | (simp only [ct, okR, c2, c3, c4]; omega)), if_neg (by first | omega | (simp only [ct, okR, c2, c3, c4]; omega)), if_neg (by first | omega | (simp only [ct, okR, c2, c3, c4]; omega)), if_neg (by first | omega | (simp only [ct, okR, c2, c3, c4]; omega))]
      exact .inl ⟨rfl, rfl⟩
    · have hb' := mt hb2.2 hb
      rw [if_neg hb, if_neg (by first | omega | (simp only [ct, okR, c2, c3, c4]; omega)), if_pos (by first | omega | (simp only [ct, okR, c2, c3, c4]; omega)), if_pos (by first | omega | (simp only [ct, okR, c2, c3, c4]; omega))]
      exact .inr ⟨2, rfl, rfl, fun h => by have h : c2 x = 65533 := h; simp only [c2] at h; omega⟩
  all_goals
    first
    | (rw [if_neg (by first | omega | (simp only [ct, okR, c2, c3, c4]; omega)), if_neg (by first | omega | (simp only [ct, okR, c2, c3, c4]; omega)), if_pos (by first | omega | (simp only [ct, okR, c2, c3, c4]; omega))]
       by_cases hb : bad3 x = true
       · have hb' := hb3.1 hb
         rw [if_pos hb, if_neg (by first | omega | (simp only [ct, okR, c2, c3, c4]; omega)), if_neg (by first | omega | (simp only [ct, okR, c2, c3, c4]; omega))]
         by_cases hd : (bN x 0 / 16 = 14 ∧ ct x 1) ∧ ct x 2
         · have hd' := hd
           simp only [ct] at hd'
           rw [if_pos hd, if_neg (by first | omega | (simp only [ct, okR, c2, c3, c4]; omega))]
           exact .inl ⟨rfl, rfl⟩
         · rw [if_neg hd, if_neg (by first | omega | (simp only [ct, okR, c2, c3, c4]; omega))]
           exact .inl ⟨rfl, rfl⟩
       · have hb' := mt hb3.2 hb
         rw [if_neg hb, if_neg (by first | omega | (simp only [ct, okR, c2, c3, c4]; omega)), if_neg (by first | omega | (simp only [ct, okR, c2, c3, c4]; omega)), if_pos (by first | omega | (simp only [ct, okR, c2, c3, c4]; omega)), if_pos (by first | omega | (simp only [ct, okR, c2, c3, c4]; omega))]
         exact .inr ⟨3, rfl, rfl, fun _ => rfl⟩)
    | (rw [if_neg (by first | omega | (simp only [ct, okR, c2, c3, c4]; omega)), if_neg (by first | omega | (simp only [ct, okR, c2, c3, c4]; omega)), if_neg (by first | omega | (simp only [ct, okR, c2, c3, c4]; omega)), if_pos (by first | omega | (simp only [ct, okR, c2, c3, c4]; omega))]
       by_cases hb : bad4 x = true
       · have hb' := hb4.1 hb
         rw [if_pos hb, if_neg (by first | omega | (simp only [ct, okR, c2, c3, c4]; omega)), if_neg (by first | omega | (simp only [ct, okR, c2, c3, c4]; omega)), if_neg (by first | omega | (simp only [ct, okR, c2, c3, c4]; omega))]
         by_cases hd : ((bN x 0 / 8 = 30 ∧ ct x 1) ∧ ct x 2) ∧ ct x 3
         · have hd' := hd
           simp only [ct] at hd'
           rw [if_pos hd, if_neg (by first | omega | (simp only [ct, okR, c2, c3, c4]; omega))]
           exact .inl ⟨rfl, rfl⟩
         · rw [if_neg hd]
           exact .inl ⟨rfl, rfl⟩
       · have hb' := mt hb4.2 hb
         rw [if_neg hb, if_neg (by first | omega | (simp only [ct, okR, c2, c3, c4]; omega)), if_neg (by first | omega | (simp only [ct, okR, c2, c3, c4]; omega)), if_neg (by first | omega | (simp only [ct, okR, c2, c3, c4]; omega)), if_pos (by first | omega | (simp only [ct, okR, c2, c3, c4]; omega)), if_pos (by first | omega | (simp only [ct, okR, c2, c3, c4]; omega))]
         exact .inr ⟨4, rfl, rfl, fun h => by have h : c4 x = 65533 := h; simp only [c4] at h; omega⟩)
end Go.Proofs.YtphaholcndhonaaDoor
namespace Go.Proofs.YtphaholcndhonaaDoor
open Go Go.RowKit Go.Proofs.YtphaholcndhonaaDoor.Ab
set_option linter.unusedSimpArgs false
set_option linter.unusedVariables false

theorem cAt {x : Byt} {k : Nat} (h : k < x.length) : ((eCells x).getD k []) = [eB (x.getD k 0)] := by
  unfold eCells
  rw [List.getD_eq_getElem?_getD, List.getElem?_map, List.getElem?_eq_getElem h, List.getD_eq_getElem?_getD, List.getElem?_eq_getElem h]
  rfl
theorem b241 : ∀ a : UInt8, (decide (a.toNat < 128) || decide (sz a = 2) || decide (sz a = 3) || decide (sz a = 4) || decide (tb a = 241)) = true := byte_all (q := fun _ => true) (by decide +kernel)
theorem bsm : ∀ a : UInt8, (decide (a.toNat < 128) || decide (240 ≤ tb a) || (decide (tb a % 8 = sz a) && decide (2 ≤ sz a) && decide (sz a ≤ 4))) = true := byte_all (q := fun _ => true) (by decide +kernel)
theorem tb241 : ∀ a : UInt8, (decide (a.toNat < 128) || decide (tb a < 240) || decide (tb a = 241)) = true := byte_all (q := fun _ => true) (by decide +kernel)
/-- how many bytes are taken -/
def dN (x : Byt) : Int := if stepU x = none then 1 else 3
set_option maxRecDepth 10000 in
set_option maxHeartbeats 2000000 in
theorem drs1 (x : Byt) (hx : x ≠ []) (ha : tb (x.getD 0 0) = 241) : ∃ r : Int, FnG Tryd.prog 169 gK [.one (.e (eBytes x))] (.tup [(false, .es [.v (.int .i32 r)]), (false, .es [eI 1])]) := by
  apply Exists.intro
  refine fn_introG (T := tab) tOk Tryd.func169 rfl (by kernel_rfl) (by simp [Tryd.ntmps169]) ?_
  intro X hX
  have hnt : X.nt = 122 := hX
  clear hX
  have hpos : 0 < x.length := List.length_pos_iff.2 hx
  have ll : (eCells x).length = x.length := List.length_map ..
  have g0 : (eCells x).getD (Int.toNat 0) [] = [eB (x.getD 0 0)] := cAt hpos
  have hm : ((eCells x).length : Int) = (x.length : Int) := by rw [ll]
  repeat' (first | refine tr_seq ?_ | refine tr_block ?_ | refine tr_skip ?_)
  first | refine reg (T := tab) tOk hnt rfl ?_ ?_ | refine regD (T := tab) tOk mixedR hnt rfl (by first | decide +kernel | kernel_rfl) ?_ ?_
  · (dsimp only [AllP]; (repeat' first | exact trivial | assumption | exact Nat.le_of_ble_eq_true rfl | apply And.intro | decide | intro _ | exact rfl))
  repeat' (first | refine tr_seq ?_ | refine tr_block ?_ | refine tr_skip ?_)
  first | refine reg (T := tab) tOk hnt rfl ?_ ?_ | refine regD (T := tab) tOk mixedR hnt rfl (by first | decide +kernel | kernel_rfl) ?_ ?_
  · (dsimp only [AllP]; (repeat' first | exact trivial | assumption | exact Nat.le_of_ble_eq_true rfl | apply And.intro | decide | intro _ | exact rfl))
  rw [hm]
  repeat' (first | refine tr_seq ?_ | refine tr_block ?_ | refine tr_skip ?_)
  first | refine reg (T := tab) tOk hnt rfl ?_ ?_ | refine regD (T := tab) tOk mixedR hnt rfl (by first | decide +kernel | kernel_rfl) ?_ ?_
  · (dsimp only [AllP]; (repeat' first | exact trivial | assumption | exact Nat.le_of_ble_eq_true rfl | apply And.intro | decide | intro _ | exact rfl))
  repeat' (first | refine tr_seq ?_ | refine tr_block ?_ | refine tr_skip ?_)
  refine tr_cond rfl (fun hc => ?_) (fun hc => ?_)
  · simp only [condT_tt, condT_ff, condF_tt, condF_ff, notE_t, notE_f, decide_eq_true_eq, decide_eq_false_iff_not] at hc
    exact absurd hc (by omega)
  simp only [condT_tt, condT_ff, condF_tt, condF_ff, notE_t, notE_f, decide_eq_true_eq, decide_eq_false_iff_not] at hc
  have e1 : (Cs.es ((eCells x).getD (Int.toNat 0) [])).len = 1 := by rw [g0]; rfl
  have e2 : ((eCells x).getD (Int.toNat 0) []).length = 1 := by rw [g0]; rfl
  have e3 : D0.isA (K.int .u8) ((Cs.es ((eCells x).getD (Int.toNat 0) [])).at 0) := by rw [g0]; rfl
  have e4 : (0 : Int) < ((eCells x).length : Int) := by rw [hm]; omega
  have e5 : 0 < (Cs.es ((eCells x).getD (Int.toNat 0) [])).len := by rw [e1]; decide
  repeat' (first | refine tr_seq ?_ | refine tr_block ?_ | refine tr_skip ?_)
  first | refine reg (T := tab) tOk hnt rfl ?_ ?_ | refine regD (T := tab) tOk mixedR hnt rfl (by first | decide +kernel | kernel_rfl) ?_ ?_
  · (dsimp only [AllP]; (repeat' first | exact trivial | assumption | exact Nat.le_of_ble_eq_true rfl | apply And.intro | exact eCells_len1 _ _ ‹_› | exact eCells_isByte _ _ ‹_› | (intro hh_; have hg_ := hh_; (try simp only [condT_ff, condF_tt, notE_t, notE_f, Bool.and_eq_true, ne_eq, decide_eq_true_eq, decide_eq_false_iff_not] at hg_)) | intro _ | exact rfl | omega))
  rw [g0]
  have f1 := fs_len (x.getD 0 0)
  have f2 := fs_isA (x.getD 0 0)
  have al := (x.getD 0 0).toNat_lt
  have al2 : ((x.getD 0 0).toNat : Int) < 256 := by omega
  have eb : ([eB (x.getD 0 0)].getD 0 E.dflt).int = ((x.getD 0 0).toNat : Int) := rfl
  repeat' (first | refine tr_seq ?_ | refine tr_block ?_ | refine tr_skip ?_)
  first | refine reg (T := tab) tOk hnt rfl ?_ ?_ | refine regD (T := tab) tOk mixedR hnt rfl (by first | decide +kernel | kernel_rfl) ?_ ?_
  · (dsimp only [AllP]; (repeat' first | exact trivial | assumption | exact Nat.le_of_ble_eq_true rfl | apply And.intro | exact eCells_len1 _ _ ‹_› | exact eCells_isByte _ _ ‹_› | (intro hh_; have hg_ := hh_; (try simp only [condT_ff, condF_tt, notE_t, notE_f, Bool.and_eq_true, ne_eq, decide_eq_true_eq, decide_eq_false_iff_not] at hg_)) | intro _ | exact rfl | omega))
  rw [show (([eB (x.getD 0 0)].getD 0 E.dflt).int) = ((x.getD 0 0).toNat : Int) from rfl, tb_at (x.getD 0 0)]
  repeat' (first | refine tr_seq ?_ | refine tr_block ?_ | refine tr_skip ?_)
  first | refine reg (T := tab) tOk hnt rfl ?_ ?_ | refine regD (T := tab) tOk mixedR hnt rfl (by first | decide +kernel | kernel_rfl) ?_ ?_
  · (dsimp only [AllP]; (repeat' first | exact trivial | assumption | exact Nat.le_of_ble_eq_true rfl | apply And.intro | decide | intro _ | exact rfl))
  repeat' (first | refine tr_seq ?_ | refine tr_block ?_ | refine tr_skip ?_)
  refine tr_cond rfl (fun hc => ?_) (fun hc => ?_)
  · repeat' (first | refine tr_seq ?_ | refine tr_block ?_ | refine tr_skip ?_)
    first | refine reg (T := tab) tOk hnt rfl ?_ ?_ | refine regD (T := tab) tOk mixedR hnt rfl (by first | decide +kernel | kernel_rfl) ?_ ?_
    · (dsimp only [AllP]; (repeat' first | exact trivial | assumption | exact Nat.le_of_ble_eq_true rfl | apply And.intro | decide | intro _ | exact rfl))
    repeat' (first | refine tr_seq ?_ | refine tr_block ?_ | refine tr_skip ?_)
    first | refine reg (T := tab) tOk hnt rfl ?_ ?_ | refine regD (T := tab) tOk mixedR hnt rfl (by first | decide +kernel | kernel_rfl) ?_ ?_
    · (dsimp only [AllP]; (repeat' first | exact trivial | assumption | exact Nat.le_of_ble_eq_true rfl | apply And.intro | exact eCells_len1 _ _ ‹_› | exact eCells_isByte _ _ ‹_› | (intro hh_; have hg_ := hh_; (try simp only [condT_ff, condF_tt, notE_t, notE_f, Bool.and_eq_true, ne_eq, decide_eq_true_eq, decide_eq_false_iff_not] at hg_)) | intro _ | exact rfl | omega))
    exact tr_ret ⟨.inr rfl, _, _, rfl, trivial, rfl⟩
  · simp only [condT_tt, condT_ff, condF_tt, condF_ff, notE_t, notE_f, decide_eq_true_eq, decide_eq_false_iff_not] at hc
    exact absurd hc (by rw [ha]; decide)
theorem stN {x : Byt} (ha : 128 ≤ (x.getD 0 0).toNat) : stepU x = if sz (x.getD 0 0) = 2 then (if bad2 x = true then none else some 2) else if sz (x.getD 0 0) = 3 then (if bad3 x = true then none else some 3) else if sz (x.getD 0 0) = 4 then (if bad4 x = true then none else some 4) else none := by
  unfold stepU
  rw [if_neg (by omega)]
set_option maxRecDepth 10000 in
set_option maxHeartbeats 2000000 in
theorem drs2 (x : Byt) (hx : x ≠ []) (ha : 128 ≤ (x.getD 0 0).toNat) (hs : sz (x.getD 0 0) = 2 ∨ sz (x.getD 0 0) = 3 ∨ sz (x.getD 0 0) = 4) (htb : tb (x.getD 0 0) < 240) (hn : stepU x = none) : ∃ r : Int, FnG Tryd.prog 169 gK [.one (.e (eBytes x))] (.tup [(false, .es [.v (.int .i32 r)]), (false, .es [eI 1])]) := by
  refine ⟨65533, ?_⟩
  rw [stN ha] at hn
  have b2 := bad2_iff x
  have b3 := bad3_iff x
  have b4 := bad4_iff x
  have hcl := bsm (x.getD 0 0)
  simp only [Bool.or_eq_true, Bool.and_eq_true, decide_eq_true_eq] at hcl
  have h241 := b241 (x.getD 0 0)
  simp only [Bool.or_eq_true, decide_eq_true_eq] at h241
  refine fn_introG (T := tab) tOk Tryd.func169 rfl (by kernel_rfl) (by simp [Tryd.ntmps169]) ?_
  intro X hX
  have hnt : X.nt = 122 := hX
  clear hX
  have hpos : 0 < x.length := List.length_pos_iff.2 hx
  have ll : (eCells x).length = x.length := List.length_map ..
  have g0 : (eCells x).getD (Int.toNat 0) [] = [eB (x.getD 0 0)] := cAt hpos
  have hm : ((eCells x).length : Int) = (x.length : Int) := by rw [ll]
  repeat' (first | refine tr_seq ?_ | refine tr_block ?_ | refine tr_skip ?_)
  first | refine reg (T := tab) tOk hnt rfl ?_ ?_ | refine regD (T := tab) tOk mixedR hnt rfl (by first | decide +kernel | kernel_rfl) ?_ ?_
  · (dsimp only [AllP]; (repeat' first | exact trivial | assumption | exact Nat.le_of_ble_eq_true rfl | apply And.intro | decide | intro _ | exact rfl))
  repeat' (first | refine tr_seq ?_ | refine tr_block ?_ | refine tr_skip ?_)
  first | refine reg (T := tab) tOk hnt rfl ?_ ?_ | refine regD (T := tab) tOk mixedR hnt rfl (by first | decide +kernel | kernel_rfl) ?_ ?_
  · (dsimp only [AllP]; (repeat' first | exact trivial | assumption | exact Nat.le_of_ble_eq_true rfl | apply And.intro | decide | intro _ | exact rfl))
  rw [hm]
  repeat' (first | refine tr_seq ?_ | refine tr_block ?_ | refine tr_skip ?_)
  first | refine reg (T := tab) tOk hnt rfl ?_ ?_ | refine regD (T := tab) tOk mixedR hnt rfl (by first | decide +kernel | kernel_rfl) ?_ ?_
  · (dsimp only [AllP]; (repeat' first | exact trivial | assumption | exact Nat.le_of_ble_eq_true rfl | apply And.intro | decide | intro _ | exact rfl))
  repeat' (first | refine tr_seq ?_ | refine tr_block ?_ | refine tr_skip ?_)
  refine tr_cond rfl (fun hc => ?_) (fun hc => ?_)
  · simp only [condT_tt, condT_ff, condF_tt, condF_ff, notE_t, notE_f, decide_eq_true_eq, decide_eq_false_iff_not] at hc
    exact absurd hc (by omega)
  simp only [condT_tt, condT_ff, condF_tt, condF_ff, notE_t, notE_f, decide_eq_true_eq, decide_eq_false_iff_not] at hc
  have e1 : (Cs.es ((eCells x).getD (Int.toNat 0) [])).len = 1 := by rw [g0]; rfl
  have e2 : ((eCells x).getD (Int.toNat 0) []).length = 1 := by rw [g0]; rfl
  have e3 : D0.isA (K.int .u8) ((Cs.es ((eCells x).getD (Int.toNat 0) [])).at 0) := by rw [g0]; rfl
  have e4 : (0 : Int) < ((eCells x).length : Int) := by rw [hm]; omega
  have e5 : 0 < (Cs.es ((eCells x).getD (Int.toNat 0) [])).len := by rw [e1]; decide
  repeat' (first | refine tr_seq ?_ | refine tr_block ?_ | refine tr_skip ?_)
  first | refine reg (T := tab) tOk hnt rfl ?_ ?_ | refine regD (T := tab) tOk mixedR hnt rfl (by first | decide +kernel | kernel_rfl) ?_ ?_
  · (dsimp only [AllP]; (repeat' first | exact trivial | assumption | exact Nat.le_of_ble_eq_true rfl | apply And.intro | exact eCells_len1 _ _ ‹_› | exact eCells_isByte _ _ ‹_› | (intro hh_; have hg_ := hh_; (try simp only [condT_ff, condF_tt, notE_t, notE_f, Bool.and_eq_true, ne_eq, decide_eq_true_eq, decide_eq_false_iff_not] at hg_)) | intro _ | exact rfl | omega))
  rw [g0]
  have f1 := fs_len (x.getD 0 0)
  have f2 := fs_isA (x.getD 0 0)
  have al := (x.getD 0 0).toNat_lt
  have al2 : ((x.getD 0 0).toNat : Int) < 256 := by omega
  have eb : ([eB (x.getD 0 0)].getD 0 E.dflt).int = ((x.getD 0 0).toNat : Int) := rfl
  repeat' (first | refine tr_seq ?_ | refine tr_block ?_ | refine tr_skip ?_)
  first | refine reg (T := tab) tOk hnt rfl ?_ ?_ | refine regD (T := tab) tOk mixedR hnt rfl (by first | decide +kernel | kernel_rfl) ?_ ?_
  · (dsimp only [AllP]; (repeat' first | exact trivial | assumption | exact Nat.le_of_ble_eq_true rfl | apply And.intro | exact eCells_len1 _ _ ‹_› | exact eCells_isByte _ _ ‹_› | (intro hh_; have hg_ := hh_; (try simp only [condT_ff, condF_tt, notE_t, notE_f, Bool.and_eq_true, ne_eq, decide_eq_true_eq, decide_eq_false_iff_not] at hg_)) | intro _ | exact rfl | omega))
  rw [show (([eB (x.getD 0 0)].getD 0 E.dflt).int) = ((x.getD 0 0).toNat : Int) from rfl, tb_at (x.getD 0 0)]
  repeat' (first | refine tr_seq ?_ | refine tr_block ?_ | refine tr_skip ?_)
  first | refine reg (T := tab) tOk hnt rfl ?_ ?_ | refine regD (T := tab) tOk mixedR hnt rfl (by first | decide +kernel | kernel_rfl) ?_ ?_
  · (dsimp only [AllP]; (repeat' first | exact trivial | assumption | exact Nat.le_of_ble_eq_true rfl | apply And.intro | decide | intro _ | exact rfl))
  repeat' (first | refine tr_seq ?_ | refine tr_block ?_ | refine tr_skip ?_)
  refine tr_cond rfl (fun hc => ?_) (fun hc => ?_)
  · simp only [condT_tt, condT_ff, condF_tt, condF_ff, notE_t, notE_f, decide_eq_true_eq, decide_eq_false_iff_not] at hc
    exact absurd hc (by omega)
  simp only [condT_tt, condT_ff, condF_tt, condF_ff, notE_t, notE_f, decide_eq_true_eq, decide_eq_false_iff_not] at hc
  repeat' (first | refine tr_seq ?_ | refine tr_block ?_ | refine tr_skip ?_)
  first | refine reg (T := tab) tOk hnt rfl ?_ ?_ | refine regD (T := tab) tOk mixedR hnt rfl (by first | decide +kernel | kernel_rfl) ?_ ?_
  · (dsimp only [AllP]; (repeat' first | exact trivial | assumption | exact Nat.le_of_ble_eq_true rfl | apply And.intro | decide | intro _ | exact rfl))
  rw [sz_conv (x.getD 0 0)]
  obtain ⟨q1, q2, q3⟩ := ac_ok (x.getD 0 0)
  have q4 : (Cs.es (List.take 2 (List.drop 0 (List.drop (Int.toNat (Int.fdiv (tb (x.getD 0 0) : Int) (2 ^ min (Int.toNat 4) IntKind.u8.bits)) * 2) acE)))).len = 2 := congrArg List.length (acc_at (x.getD 0 0))
  have q5 : 0 + 2 ≤ (Cs.es (List.drop (Int.toNat (Int.fdiv (tb (x.getD 0 0) : Int) (2 ^ min (Int.toNat 4) IntKind.u8.bits)) * 2) acE)).len := by
    have : (List.take 2 (List.drop (Int.toNat (Int.fdiv (tb (x.getD 0 0) : Int) (2 ^ min (Int.toNat 4) IntKind.u8.bits)) * 2) acE)).length = 2 := q4
    rw [List.length_take] at this
    show 0 + 2 ≤ List.length _
    omega
  repeat' (first | refine tr_seq ?_ | refine tr_block ?_ | refine tr_skip ?_)
  first | refine reg (T := tab) tOk hnt rfl ?_ ?_ | refine regD (T := tab) tOk mixedR hnt rfl (by first | decide +kernel | kernel_rfl) ?_ ?_
  · (dsimp only [AllP]; (repeat' first | exact trivial | assumption | exact Nat.le_of_ble_eq_true rfl | apply And.intro | exact eCells_len1 _ _ ‹_› | exact eCells_isByte _ _ ‹_› | (intro hh_; have hg_ := hh_; (try simp only [condT_ff, condF_tt, notE_t, notE_f, Bool.and_eq_true, ne_eq, decide_eq_true_eq, decide_eq_false_iff_not] at hg_)) | intro _ | exact rfl | omega))
  rw [acc_at (x.getD 0 0)]
  clear q1 q2 q3 q4 q5
  repeat' (first | refine tr_seq ?_ | refine tr_block ?_ | refine tr_skip ?_)
  first | refine reg (T := tab) tOk hnt rfl ?_ ?_ | refine regD (T := tab) tOk mixedR hnt rfl (by first | decide +kernel | kernel_rfl) ?_ ?_
  · (dsimp only [AllP]; (repeat' first | exact trivial | assumption | exact Nat.le_of_ble_eq_true rfl | apply And.intro | decide | intro _ | exact rfl))
  repeat' (first | refine tr_seq ?_ | refine tr_block ?_ | refine tr_skip ?_)
  refine tr_cond rfl (fun hc => ?_) (fun hc => ?_)
  · repeat' (first | refine tr_seq ?_ | refine reg (T := tab) tOk hnt rfl ?_ ?_ | refine regD (T := tab) tOk mixedR hnt rfl (by first | decide +kernel | kernel_rfl) ?_ ?_ | refine tr_block ?_ | refine tr_skip ?_)
    · (dsimp only [AllP]; (repeat' first | exact trivial | assumption | exact Nat.le_of_ble_eq_true rfl | apply And.intro | decide | intro _ | exact rfl))
    exact tr_ret ⟨.inr rfl, _, _, rfl, trivial, rfl⟩
  simp only [condT_tt, condT_ff, condF_tt, condF_ff, notE_t, notE_f, decide_eq_true_eq, decide_eq_false_iff_not] at hc
  have g1 : (eCells x).getD (Int.toNat 1) [] = [eB (x.getD 1 0)] := cAt (k := 1) (by omega)
  have e1 : (Cs.es ((eCells x).getD (Int.toNat 1) [])).len = 1 := by rw [g1]; rfl
  have e2 : ((eCells x).getD (Int.toNat 1) []).length = 1 := by rw [g1]; rfl
  have e3 : D0.isA (K.int .u8) ((Cs.es ((eCells x).getD (Int.toNat 1) [])).at 0) := by rw [g1]; rfl
  have e4 : (1 : Int) < ((eCells x).length : Int) := by rw [hm]; omega
  have e5 : 0 < (Cs.es ((eCells x).getD (Int.toNat 1) [])).len := by rw [e1]; decide
  repeat' (first | refine tr_seq ?_ | refine tr_block ?_ | refine tr_skip ?_)
  first | refine reg (T := tab) tOk hnt rfl ?_ ?_ | refine regD (T := tab) tOk mixedR hnt rfl (by first | decide +kernel | kernel_rfl) ?_ ?_
  · (dsimp only [AllP]; (repeat' first | exact trivial | assumption | exact Nat.le_of_ble_eq_true rfl | apply And.intro | exact eCells_len1 _ _ ‹_› | exact eCells_isByte _ _ ‹_› | (intro hh_; have hg_ := hh_; (try simp only [condT_ff, condF_tt, notE_t, notE_f, Bool.and_eq_true, ne_eq, decide_eq_true_eq, decide_eq_false_iff_not] at hg_)) | intro _ | exact rfl | omega))
  rw [g1]
  rw [show ([eB (x.getD 1 0)].getD 0 E.dflt).int = ((x.getD 1 0).toNat : Int) from rfl]
  clear e1 e2 e3 e4 e5
  repeat' (first | refine tr_seq ?_ | refine tr_block ?_ | refine tr_skip ?_)
  first | refine reg (T := tab) tOk hnt rfl ?_ ?_ | refine regD (T := tab) tOk mixedR hnt rfl (by first | decide +kernel | kernel_rfl) ?_ ?_
  · (dsimp only [AllP]; (repeat' first | exact trivial | assumption | exact Nat.le_of_ble_eq_true rfl | apply And.intro | decide | intro _ | exact rfl))
  repeat' (first | refine tr_seq ?_ | refine tr_block ?_ | refine tr_skip ?_)
  refine tr_cond rfl (fun hc => ?_) (fun hc => ?_)
  · repeat' (first | refine tr_seq ?_ | refine reg (T := tab) tOk hnt rfl ?_ ?_ | refine regD (T := tab) tOk mixedR hnt rfl (by first | decide +kernel | kernel_rfl) ?_ ?_ | refine tr_block ?_ | refine tr_skip ?_)
    · (dsimp only [AllP]; (repeat' first | exact trivial | assumption | exact Nat.le_of_ble_eq_true rfl | apply And.intro | decide | intro _ | exact rfl))
    exact tr_ret ⟨.inr rfl, _, _, rfl, trivial, rfl⟩
  simp only [condT_tt, condT_ff, condF_tt, condF_ff, notE_t, notE_f, decide_eq_true_eq, decide_eq_false_iff_not] at hc
  have hc : ¬ ((x.getD 1 0).toNat : Int) < (alo (x.getD 0 0) : Int) ∧ ¬ (ahi (x.getD 0 0) : Int) < ((x.getD 1 0).toNat : Int) := hc
  have hb1 : ((x.getD 1 0).toNat) = bN x 1 := rfl
  rw [hb1] at hc
  have n2 : sz (x.getD 0 0) ≠ 2 := fun e => by
    rw [if_pos e, if_neg (fun h => by have := b2.1 h; omega)] at hn
    cases hn
  rw [if_neg n2] at hn
  repeat' (first | refine tr_seq ?_ | refine tr_block ?_ | refine tr_skip ?_)
  first | refine reg (T := tab) tOk hnt rfl ?_ ?_ | refine regD (T := tab) tOk mixedR hnt rfl (by first | decide +kernel | kernel_rfl) ?_ ?_
  · (dsimp only [AllP]; (repeat' first | exact trivial | assumption | exact Nat.le_of_ble_eq_true rfl | apply And.intro | decide | intro _ | exact rfl))
  repeat' (first | refine tr_seq ?_ | refine tr_block ?_ | refine tr_skip ?_)
  refine tr_cond rfl (fun hc => ?_) (fun hc => ?_)
  · simp only [condT_tt, condT_ff, condF_tt, condF_ff, notE_t, notE_f, decide_eq_true_eq, decide_eq_false_iff_not] at hc
    exact absurd hc (by omega)
  simp only [condT_tt, condT_ff, condF_tt, condF_ff, notE_t, notE_f, decide_eq_true_eq, decide_eq_false_iff_not] at hc
  have g2 : (eCells x).getD (Int.toNat 2) [] = [eB (x.getD 2 0)] := cAt (k := 2) (by omega)
  have e1 : (Cs.es ((eCells x).getD (Int.toNat 2) [])).len = 1 := by rw [g2]; rfl
  have e2 : ((eCells x).getD (Int.toNat 2) []).length = 1 := by rw [g2]; rfl
  have e3 : D0.isA (K.int .u8) ((Cs.es ((eCells x).getD (Int.toNat 2) [])).at 0) := by rw [g2]; rfl
  have e4 : (2 : Int) < ((eCells x).length : Int) := by rw [hm]; omega
  have e5 : 0 < (Cs.es ((eCells x).getD (Int.toNat 2) [])).len := by rw [e1]; decide
  repeat' (first | refine tr_seq ?_ | refine tr_block ?_ | refine tr_skip ?_)
  first | refine reg (T := tab) tOk hnt rfl ?_ ?_ | refine regD (T := tab) tOk mixedR hnt rfl (by first | decide +kernel | kernel_rfl) ?_ ?_
  · (dsimp only [AllP]; (repeat' first | exact trivial | assumption | exact Nat.le_of_ble_eq_true rfl | apply And.intro | exact eCells_len1 _ _ ‹_› | exact eCells_isByte _ _ ‹_› | (intro hh_; have hg_ := hh_; (try simp only [condT_ff, condF_tt, notE_t, notE_f, Bool.and_eq_true, ne_eq, decide_eq_true_eq, decide_eq_false_iff_not] at hg_)) | intro _ | exact rfl | omega))
  rw [g2]
  rw [show ([eB (x.getD 2 0)].getD 0 E.dflt).int = ((x.getD 2 0).toNat : Int) from rfl]
  clear e1 e2 e3 e4 e5
  repeat' (first | refine tr_seq ?_ | refine tr_block ?_ | refine tr_skip ?_)
  first | refine reg (T := tab) tOk hnt rfl ?_ ?_ | refine regD (T := tab) tOk mixedR hnt rfl (by first | decide +kernel | kernel_rfl) ?_ ?_
  · (dsimp only [AllP]; (repeat' first | exact trivial | assumption | exact Nat.le_of_ble_eq_true rfl | apply And.intro | decide | intro _ | exact rfl))
  have hb2 : ((x.getD 2 0).toNat) = bN x 2 := rfl
  repeat' (first | refine tr_seq ?_ | refine tr_block ?_ | refine tr_skip ?_)
  refine tr_cond rfl (fun hc => ?_) (fun hc => ?_)
  · repeat' (first | refine tr_seq ?_ | refine reg (T := tab) tOk hnt rfl ?_ ?_ | refine regD (T := tab) tOk mixedR hnt rfl (by first | decide +kernel | kernel_rfl) ?_ ?_ | refine tr_block ?_ | refine tr_skip ?_)
    · (dsimp only [AllP]; (repeat' first | exact trivial | assumption | exact Nat.le_of_ble_eq_true rfl | apply And.intro | decide | intro _ | exact rfl))
    exact tr_ret ⟨.inr rfl, _, _, rfl, trivial, rfl⟩
  simp only [condT_tt, condT_ff, condF_tt, condF_ff, notE_t, notE_f, decide_eq_true_eq, decide_eq_false_iff_not] at hc
  rw [hb2] at hc
  have n3 : sz (x.getD 0 0) ≠ 3 := fun e => by
    rw [if_pos e, if_neg (fun h => by have := b3.1 h; omega)] at hn
    cases hn
  rw [if_neg n3] at hn
  have n4 : sz (x.getD 0 0) = 4 := by omega
  rw [if_pos n4] at hn
  repeat' (first | refine tr_seq ?_ | refine tr_block ?_ | refine tr_skip ?_)
  first | refine reg (T := tab) tOk hnt rfl ?_ ?_ | refine regD (T := tab) tOk mixedR hnt rfl (by first | decide +kernel | kernel_rfl) ?_ ?_
  · (dsimp only [AllP]; (repeat' first | exact trivial | assumption | exact Nat.le_of_ble_eq_true rfl | apply And.intro | decide | intro _ | exact rfl))
  repeat' (first | refine tr_seq ?_ | refine tr_block ?_ | refine tr_skip ?_)
  refine tr_cond rfl (fun hc => ?_) (fun hc => ?_)
  · simp only [condT_tt, condT_ff, condF_tt, condF_ff, notE_t, notE_f, decide_eq_true_eq, decide_eq_false_iff_not] at hc
    exact absurd hc (by omega)
  simp only [condT_tt, condT_ff, condF_tt, condF_ff, notE_t, notE_f, decide_eq_true_eq, decide_eq_false_iff_not] at hc
  have g3 : (eCells x).getD (Int.toNat 3) [] = [eB (x.getD 3 0)] := cAt (k := 3) (by omega)
  have e1 : (Cs.es ((eCells x).getD (Int.toNat 3) [])).len = 1 := by rw [g3]; rfl
  have e2 : ((eCells x).getD (Int.toNat 3) []).length = 1 := by rw [g3]; rfl
  have e3 : D0.isA (K.int .u8) ((Cs.es ((eCells x).getD (Int.toNat 3) [])).at 0) := by rw [g3]; rfl
  have e4 : (3 : Int) < ((eCells x).length : Int) := by rw [hm]; omega
  have e5 : 0 < (Cs.es ((eCells x).getD (Int.toNat 3) [])).len := by rw [e1]; decide
  repeat' (first | refine tr_seq ?_ | refine tr_block ?_ | refine tr_skip ?_)
  first | refine reg (T := tab) tOk hnt rfl ?_ ?_ | refine regD (T := tab) tOk mixedR hnt rfl (by first | decide +kernel | kernel_rfl) ?_ ?_
  · (dsimp only [AllP]; (repeat' first | exact trivial | assumption | exact Nat.le_of_ble_eq_true rfl | apply And.intro | exact eCells_len1 _ _ ‹_› | exact eCells_isByte _ _ ‹_› | (intro hh_; have hg_ := hh_; (try simp only [condT_ff, condF_tt, notE_t, notE_f, Bool.and_eq_true, ne_eq, decide_eq_true_eq, decide_eq_false_iff_not] at hg_)) | intro _ | exact rfl | omega))
  rw [g3]
  rw [show ([eB (x.getD 3 0)].getD 0 E.dflt).int = ((x.getD 3 0).toNat : Int) from rfl]
  clear e1 e2 e3 e4 e5
  repeat' (first | refine tr_seq ?_ | refine tr_block ?_ | refine tr_skip ?_)
  first | refine reg (T := tab) tOk hnt rfl ?_ ?_ | refine regD (T := tab) tOk mixedR hnt rfl (by first | decide +kernel | kernel_rfl) ?_ ?_
  · (dsimp only [AllP]; (repeat' first | exact trivial | assumption | exact Nat.le_of_ble_eq_true rfl | apply And.intro | decide | intro _ | exact rfl))
  have hb3 : ((x.getD 3 0).toNat) = bN x 3 := rfl
  repeat' (first | refine tr_seq ?_ | refine tr_block ?_ | refine tr_skip ?_)
  refine tr_cond rfl (fun hc => ?_) (fun hc => ?_)
  · repeat' (first | refine tr_seq ?_ | refine reg (T := tab) tOk hnt rfl ?_ ?_ | refine regD (T := tab) tOk mixedR hnt rfl (by first | decide +kernel | kernel_rfl) ?_ ?_ | refine tr_block ?_ | refine tr_skip ?_)
    · (dsimp only [AllP]; (repeat' first | exact trivial | assumption | exact Nat.le_of_ble_eq_true rfl | apply And.intro | decide | intro _ | exact rfl))
    exact tr_ret ⟨.inr rfl, _, _, rfl, trivial, rfl⟩
  simp only [condT_tt, condT_ff, condF_tt, condF_ff, notE_t, notE_f, decide_eq_true_eq, decide_eq_false_iff_not] at hc
  rw [hb3] at hc
  rw [if_neg (fun h => by have := b4.1 h; omega)] at hn
  cases hn
set_option maxRecDepth 10000 in
set_option maxHeartbeats 2000000 in
theorem drs3 (x : Byt) (hx : x ≠ []) (ha : 128 ≤ (x.getD 0 0).toNat) (hs : sz (x.getD 0 0) = 3) (htb : tb (x.getD 0 0) < 240) (hb : bad3 x = false) : ∃ r : Int, FnG Tryd.prog 169 gK [.one (.e (eBytes x))] (.tup [(false, .es [.v (.int .i32 r)]), (false, .es [eI 3])]) := by
  have b3 := bad3_iff x
  have b3 := mt b3.2 (by rw [hb]; exact Bool.false_ne_true)
  apply Exists.intro
  have hcl := bsm (x.getD 0 0)
  simp only [Bool.or_eq_true, Bool.and_eq_true, decide_eq_true_eq] at hcl
  have h241 := b241 (x.getD 0 0)
  simp only [Bool.or_eq_true, decide_eq_true_eq] at h241
  refine fn_introG (T := tab) tOk Tryd.func169 rfl (by kernel_rfl) (by simp [Tryd.ntmps169]) ?_
  intro X hX
  have hnt : X.nt = 122 := hX
  clear hX
  have hpos : 0 < x.length := List.length_pos_iff.2 hx
  have ll : (eCells x).length = x.length := List.length_map ..
  have g0 : (eCells x).getD (Int.toNat 0) [] = [eB (x.getD 0 0)] := cAt hpos
  have hm : ((eCells x).length : Int) = (x.length : Int) := by rw [ll]
  repeat' (first | refine tr_seq ?_ | refine tr_block ?_ | refine tr_skip ?_)
  first | refine reg (T := tab) tOk hnt rfl ?_ ?_ | refine regD (T := tab) tOk mixedR hnt rfl (by first | decide +kernel | kernel_rfl) ?_ ?_
  · (dsimp only [AllP]; (repeat' first | exact trivial | assumption | exact Nat.le_of_ble_eq_true rfl | apply And.intro | decide | intro _ | exact rfl))
  repeat' (first | refine tr_seq ?_ | refine tr_block ?_ | refine tr_skip ?_)
  first | refine reg (T := tab) tOk hnt rfl ?_ ?_ | refine regD (T := tab) tOk mixedR hnt rfl (by first | decide +kernel | kernel_rfl) ?_ ?_
  · (dsimp only [AllP]; (repeat' first | exact trivial | assumption | exact Nat.le_of_ble_eq_true rfl | apply And.intro | decide | intro _ | exact rfl))
  rw [hm]
  repeat' (first | refine tr_seq ?_ | refine tr_block ?_ | refine tr_skip ?_)
  first | refine reg (T := tab) tOk hnt rfl ?_ ?_ | refine regD (T := tab) tOk mixedR hnt rfl (by first | decide +kernel | kernel_rfl) ?_ ?_
  · (dsimp only [AllP]; (repeat' first | exact trivial | assumption | exact Nat.le_of_ble_eq_true rfl | apply And.intro | decide | intro _ | exact rfl))
  repeat' (first | refine tr_seq ?_ | refine tr_block ?_ | refine tr_skip ?_)
  refine tr_cond rfl (fun hc => ?_) (fun hc => ?_)
  · simp only [condT_tt, condT_ff, condF_tt, condF_ff, notE_t, notE_f, decide_eq_true_eq, decide_eq_false_iff_not] at hc
    exact absurd hc (by omega)
  simp only [condT_tt, condT_ff, condF_tt, condF_ff, notE_t, notE_f, decide_eq_true_eq, decide_eq_false_iff_not] at hc
  have e1 : (Cs.es ((eCells x).getD (Int.toNat 0) [])).len = 1 := by rw [g0]; rfl
  have e2 : ((eCells x).getD (Int.toNat 0) []).length = 1 := by rw [g0]; rfl
  have e3 : D0.isA (K.int .u8) ((Cs.es ((eCells x).getD (Int.toNat 0) [])).at 0) := by rw [g0]; rfl
  have e4 : (0 : Int) < ((eCells x).length : Int) := by rw [hm]; omega
  have e5 : 0 < (Cs.es ((eCells x).getD (Int.toNat 0) [])).len := by rw [e1]; decide
  repeat' (first | refine tr_seq ?_ | refine tr_block ?_ | refine tr_skip ?_)
  first | refine reg (T := tab) tOk hnt rfl ?_ ?_ | refine regD (T := tab) tOk mixedR hnt rfl (by first | decide +kernel | kernel_rfl) ?_ ?_
  · (dsimp only [AllP]; (repeat' first | exact trivial | assumption | exact Nat.le_of_ble_eq_true rfl | apply And.intro | exact eCells_len1 _ _ ‹_› | exact eCells_isByte _ _ ‹_› | (intro hh_; have hg_ := hh_; (try simp only [condT_ff, condF_tt, notE_t, notE_f, Bool.and_eq_true, ne_eq, decide_eq_true_eq, decide_eq_false_iff_not] at hg_)) | intro _ | exact rfl | omega))
  rw [g0]
  have f1 := fs_len (x.getD 0 0)
  have f2 := fs_isA (x.getD 0 0)
  have al := (x.getD 0 0).toNat_lt
  have al2 : ((x.getD 0 0).toNat : Int) < 256 := by omega
  have eb : ([eB (x.getD 0 0)].getD 0 E.dflt).int = ((x.getD 0 0).toNat : Int) := rfl
  repeat' (first | refine tr_seq ?_ | refine tr_block ?_ | refine tr_skip ?_)
  first | refine reg (T := tab) tOk hnt rfl ?_ ?_ | refine regD (T := tab) tOk mixedR hnt rfl (by first | decide +kernel | kernel_rfl) ?_ ?_
  · (dsimp only [AllP]; (repeat' first | exact trivial | assumption | exact Nat.le_of_ble_eq_true rfl | apply And.intro | exact eCells_len1 _ _ ‹_› | exact eCells_isByte _ _ ‹_› | (intro hh_; have hg_ := hh_; (try simp only [condT_ff, condF_tt, notE_t, notE_f, Bool.and_eq_true, ne_eq, decide_eq_true_eq, decide_eq_false_iff_not] at hg_)) | intro _ | exact rfl | omega))
  rw [show (([eB (x.getD 0 0)].getD 0 E.dflt).int) = ((x.getD 0 0).toNat : Int) from rfl, tb_at (x.getD 0 0)]
  repeat' (first | refine tr_seq ?_ | refine tr_block ?_ | refine tr_skip ?_)
  first | refine reg (T := tab) tOk hnt rfl ?_ ?_ | refine regD (T := tab) tOk mixedR hnt rfl (by first | decide +kernel | kernel_rfl) ?_ ?_
  · (dsimp only [AllP]; (repeat' first | exact trivial | assumption | exact Nat.le_of_ble_eq_true rfl | apply And.intro | decide | intro _ | exact rfl))
  repeat' (first | refine tr_seq ?_ | refine tr_block ?_ | refine tr_skip ?_)
  refine tr_cond rfl (fun hc => ?_) (fun hc => ?_)
  · simp only [condT_tt, condT_ff, condF_tt, condF_ff, notE_t, notE_f, decide_eq_true_eq, decide_eq_false_iff_not] at hc
    exact absurd hc (by omega)
  simp only [condT_tt, condT_ff, condF_tt, condF_ff, notE_t, notE_f, decide_eq_true_eq, decide_eq_false_iff_not] at hc
  repeat' (first | refine tr_seq ?_ | refine tr_block ?_ | refine tr_skip ?_)
  first | refine reg (T := tab) tOk hnt rfl ?_ ?_ | refine regD (T := tab) tOk mixedR hnt rfl (by first | decide +kernel | kernel_rfl) ?_ ?_
  · (dsimp only [AllP]; (repeat' first | exact trivial | assumption | exact Nat.le_of_ble_eq_true rfl | apply And.intro | decide | intro _ | exact rfl))
  rw [sz_conv (x.getD 0 0)]
  obtain ⟨q1, q2, q3⟩ := ac_ok (x.getD 0 0)
  have q4 : (Cs.es (List.take 2 (List.drop 0 (List.drop (Int.toNat (Int.fdiv (tb (x.getD 0 0) : Int) (2 ^ min (Int.toNat 4) IntKind.u8.bits)) * 2) acE)))).len = 2 := congrArg List.length (acc_at (x.getD 0 0))
  have q5 : 0 + 2 ≤ (Cs.es (List.drop (Int.toNat (Int.fdiv (tb (x.getD 0 0) : Int) (2 ^ min (Int.toNat 4) IntKind.u8.bits)) * 2) acE)).len := by
    have : (List.take 2 (List.drop (Int.toNat (Int.fdiv (tb (x.getD 0 0) : Int) (2 ^ min (Int.toNat 4) IntKind.u8.bits)) * 2) acE)).length = 2 := q4
    rw [List.length_take] at this
    show 0 + 2 ≤ List.length _
    omega
  repeat' (first | refine tr_seq ?_ | refine tr_block ?_ | refine tr_skip ?_)
  first | refine reg (T := tab) tOk hnt rfl ?_ ?_ | refine regD (T := tab) tOk mixedR hnt rfl (by first | decide +kernel | kernel_rfl) ?_ ?_
  · (dsimp only [AllP]; (repeat' first | exact trivial | assumption | exact Nat.le_of_ble_eq_true rfl | apply And.intro | exact eCells_len1 _ _ ‹_› | exact eCells_isByte _ _ ‹_› | (intro hh_; have hg_ := hh_; (try simp only [condT_ff, condF_tt, notE_t, notE_f, Bool.and_eq_true, ne_eq, decide_eq_true_eq, decide_eq_false_iff_not] at hg_)) | intro _ | exact rfl | omega))
  rw [acc_at (x.getD 0 0)]
  clear q1 q2 q3 q4 q5
  repeat' (first | refine tr_seq ?_ | refine tr_block ?_ | refine tr_skip ?_)
  first | refine reg (T := tab) tOk hnt rfl ?_ ?_ | refine regD (T := tab) tOk mixedR hnt rfl (by first | decide +kernel | kernel_rfl) ?_ ?_
  · (dsimp only [AllP]; (repeat' first | exact trivial | assumption | exact Nat.le_of_ble_eq_true rfl | apply And.intro | decide | intro _ | exact rfl))
  repeat' (first | refine tr_seq ?_ | refine tr_block ?_ | refine tr_skip ?_)
  refine tr_cond rfl (fun hc => ?_) (fun hc => ?_)
  · simp only [condT_tt, condT_ff, condF_tt, condF_ff, notE_t, notE_f, decide_eq_true_eq, decide_eq_false_iff_not] at hc
    exact absurd hc (by omega)
  simp only [condT_tt, condT_ff, condF_tt, condF_ff, notE_t, notE_f, decide_eq_true_eq, decide_eq_false_iff_not] at hc
  have g1 : (eCells x).getD (Int.toNat 1) [] = [eB (x.getD 1 0)] := cAt (k := 1) (by omega)
  have e1 : (Cs.es ((eCells x).getD (Int.toNat 1) [])).len = 1 := by rw [g1]; rfl
  have e2 : ((eCells x).getD (Int.toNat 1) []).length = 1 := by rw [g1]; rfl
  have e3 : D0.isA (K.int .u8) ((Cs.es ((eCells x).getD (Int.toNat 1) [])).at 0) := by rw [g1]; rfl
  have e4 : (1 : Int) < ((eCells x).length : Int) := by rw [hm]; omega
  have e5 : 0 < (Cs.es ((eCells x).getD (Int.toNat 1) [])).len := by rw [e1]; decide
  repeat' (first | refine tr_seq ?_ | refine tr_block ?_ | refine tr_skip ?_)
  first | refine reg (T := tab) tOk hnt rfl ?_ ?_ | refine regD (T := tab) tOk mixedR hnt rfl (by first | decide +kernel | kernel_rfl) ?_ ?_
  · (dsimp only [AllP]; (repeat' first | exact trivial | assumption | exact Nat.le_of_ble_eq_true rfl | apply And.intro | exact eCells_len1 _ _ ‹_› | exact eCells_isByte _ _ ‹_› | (intro hh_; have hg_ := hh_; (try simp only [condT_ff, condF_tt, notE_t, notE_f, Bool.and_eq_true, ne_eq, decide_eq_true_eq, decide_eq_false_iff_not] at hg_)) | intro _ | exact rfl | omega))
  rw [g1]
  rw [show ([eB (x.getD 1 0)].getD 0 E.dflt).int = ((x.getD 1 0).toNat : Int) from rfl]
  clear e1 e2 e3 e4 e5
  repeat' (first | refine tr_seq ?_ | refine tr_block ?_ | refine tr_skip ?_)
  first | refine reg (T := tab) tOk hnt rfl ?_ ?_ | refine regD (T := tab) tOk mixedR hnt rfl (by first | decide +kernel | kernel_rfl) ?_ ?_
  · (dsimp only [AllP]; (repeat' first | exact trivial | assumption | exact Nat.le_of_ble_eq_true rfl | apply And.intro | decide | intro _ | exact rfl))
  have hb1 : ((x.getD 1 0).toNat) = bN x 1 := rfl
  repeat' (first | refine tr_seq ?_ | refine tr_block ?_ | refine tr_skip ?_)
  refine tr_cond rfl (fun hc => ?_) (fun hc => ?_)
  · simp only [condT_tt, condT_ff, condF_tt, condF_ff, notE_t, notE_f, decide_eq_true_eq, decide_eq_false_iff_not] at hc
    have hc : ((x.getD 1 0).toNat : Int) < (alo (x.getD 0 0) : Int) ∨ (ahi (x.getD 0 0) : Int) < ((x.getD 1 0).toNat : Int) := hc
    rw [hb1] at hc
    exact absurd hc (by omega)
  simp only [condT_tt, condT_ff, condF_tt, condF_ff, notE_t, notE_f, decide_eq_true_eq, decide_eq_false_iff_not] at hc
  repeat' (first | refine tr_seq ?_ | refine tr_block ?_ | refine tr_skip ?_)
  first | refine reg (T := tab) tOk hnt rfl ?_ ?_ | refine regD (T := tab) tOk mixedR hnt rfl (by first | decide +kernel | kernel_rfl) ?_ ?_
  · (dsimp only [AllP]; (repeat' first | exact trivial | assumption | exact Nat.le_of_ble_eq_true rfl | apply And.intro | decide | intro _ | exact rfl))
  repeat' (first | refine tr_seq ?_ | refine tr_block ?_ | refine tr_skip ?_)
  refine tr_cond rfl (fun hc => ?_) (fun hc => ?_)
  · simp only [condT_tt, condT_ff, condF_tt, condF_ff, notE_t, notE_f, decide_eq_true_eq, decide_eq_false_iff_not] at hc
    exact absurd hc (by omega)
  simp only [condT_tt, condT_ff, condF_tt, condF_ff, notE_t, notE_f, decide_eq_true_eq, decide_eq_false_iff_not] at hc
  have g2 : (eCells x).getD (Int.toNat 2) [] = [eB (x.getD 2 0)] := cAt (k := 2) (by omega)
  have e1 : (Cs.es ((eCells x).getD (Int.toNat 2) [])).len = 1 := by rw [g2]; rfl
  have e2 : ((eCells x).getD (Int.toNat 2) []).length = 1 := by rw [g2]; rfl
  have e3 : D0.isA (K.int .u8) ((Cs.es ((eCells x).getD (Int.toNat 2) [])).at 0) := by rw [g2]; rfl
  have e4 : (2 : Int) < ((eCells x).length : Int) := by rw [hm]; omega
  have e5 : 0 < (Cs.es ((eCells x).getD (Int.toNat 2) [])).len := by rw [e1]; decide
  repeat' (first | refine tr_seq ?_ | refine tr_block ?_ | refine tr_skip ?_)
  first | refine reg (T := tab) tOk hnt rfl ?_ ?_ | refine regD (T := tab) tOk mixedR hnt rfl (by first | decide +kernel | kernel_rfl) ?_ ?_
  · (dsimp only [AllP]; (repeat' first | exact trivial | assumption | exact Nat.le_of_ble_eq_true rfl | apply And.intro | exact eCells_len1 _ _ ‹_› | exact eCells_isByte _ _ ‹_› | (intro hh_; have hg_ := hh_; (try simp only [condT_ff, condF_tt, notE_t, notE_f, Bool.and_eq_true, ne_eq, decide_eq_true_eq, decide_eq_false_iff_not] at hg_)) | intro _ | exact rfl | omega))
  rw [g2]
  rw [show ([eB (x.getD 2 0)].getD 0 E.dflt).int = ((x.getD 2 0).toNat : Int) from rfl]
  clear e1 e2 e3 e4 e5
  repeat' (first | refine tr_seq ?_ | refine tr_block ?_ | refine tr_skip ?_)
  first | refine reg (T := tab) tOk hnt rfl ?_ ?_ | refine regD (T := tab) tOk mixedR hnt rfl (by first | decide +kernel | kernel_rfl) ?_ ?_
  · (dsimp only [AllP]; (repeat' first | exact trivial | assumption | exact Nat.le_of_ble_eq_true rfl | apply And.intro | decide | intro _ | exact rfl))
  have hb2 : ((x.getD 2 0).toNat) = bN x 2 := rfl
  repeat' (first | refine tr_seq ?_ | refine tr_block ?_ | refine tr_skip ?_)
  refine tr_cond rfl (fun hc => ?_) (fun hc => ?_)
  · simp only [condT_tt, condT_ff, condF_tt, condF_ff, notE_t, notE_f, decide_eq_true_eq, decide_eq_false_iff_not] at hc
    rw [hb2] at hc
    exact absurd hc (by omega)
  simp only [condT_tt, condT_ff, condF_tt, condF_ff, notE_t, notE_f, decide_eq_true_eq, decide_eq_false_iff_not] at hc
  repeat' (first | refine tr_seq ?_ | refine tr_block ?_ | refine tr_skip ?_)
  first | refine reg (T := tab) tOk hnt rfl ?_ ?_ | refine regD (T := tab) tOk mixedR hnt rfl (by first | decide +kernel | kernel_rfl) ?_ ?_
  · (dsimp only [AllP]; (repeat' first | exact trivial | assumption | exact Nat.le_of_ble_eq_true rfl | apply And.intro | decide | intro _ | exact rfl))
  repeat' (first | refine tr_seq ?_ | refine tr_block ?_ | refine tr_skip ?_)
  refine tr_cond rfl (fun hc => ?_) (fun hc => ?_)
  · repeat' (first | refine tr_seq ?_ | refine reg (T := tab) tOk hnt rfl ?_ ?_ | refine regD (T := tab) tOk mixedR hnt rfl (by first | decide +kernel | kernel_rfl) ?_ ?_ | refine tr_block ?_ | refine tr_skip ?_)
    · (dsimp only [AllP]; (repeat' first | exact trivial | assumption | exact Nat.le_of_ble_eq_true rfl | apply And.intro | decide | intro _ | exact rfl))
    exact tr_ret ⟨.inr rfl, _, _, rfl, trivial, rfl⟩
  simp only [condT_tt, condT_ff, condF_tt, condF_ff, notE_t, notE_f, decide_eq_true_eq, decide_eq_false_iff_not] at hc
  exact absurd hc (by omega)
/-- utf8.DecodeRune, where the model's decoding says 65533 -/
theorem drs (x : Byt) (hx : x ≠ []) (hd : (decX x).1 = 65533) : ∃ r : Int, FnG Tryd.prog 169 gK [.one (.e (eBytes x))] (.tup [(false, .es [.v (.int .i32 r)]), (false, .es [eI (dN x)])]) := by
  have hcl := bsm (x.getD 0 0)
  simp only [Bool.or_eq_true, Bool.and_eq_true, decide_eq_true_eq] at hcl
  have h241 := b241 (x.getD 0 0)
  simp only [Bool.or_eq_true, decide_eq_true_eq] at h241
  have hge : 128 ≤ (x.getD 0 0).toNat := by
    rcases Nat.lt_or_ge (x.getD 0 0).toNat 128 with h | h
    · have e : (x.getD 0 0).toNat = bN x 0 := rfl
      unfold decX at hd
      rw [if_pos (by omega)] at hd
      have hd : bN x 0 = 65533 := hd
      omega
    · exact h
  rcases dec_step x with ⟨h1, _⟩ | ⟨k, h1, _, h3⟩
  · rw [show dN x = 1 by unfold dN; rw [if_pos h1]]
    by_cases ht : tb (x.getD 0 0) = 241
    · exact drs1 x hx ht
    · have hlt : tb (x.getD 0 0) < 240 := by
        rcases hcl with (h | h) | h
        · omega
        · have : sz (x.getD 0 0) = tb (x.getD 0 0) % 8 := rfl
          have := tb241 (x.getD 0 0)
          simp only [Bool.or_eq_true, decide_eq_true_eq] at this
          omega
        · have := tb241 (x.getD 0 0)
          simp only [Bool.or_eq_true, decide_eq_true_eq] at this
          omega
      exact drs2 x hx hge (by omega) hlt h1
  · have hk := h3 hd
    subst hk
    rw [show dN x = 3 by unfold dN; rw [if_neg (by rw [h1]; exact fun h => nomatch h)]]
    rw [stN hge] at h1
    split at h1
    · split at h1
      · cases h1
      · cases h1
    · split at h1
      · rename_i h4
        split at h1
        · cases h1
        · rename_i h5
          have := tb241 (x.getD 0 0)
          simp only [Bool.or_eq_true, decide_eq_true_eq] at this
          have ht : tb (x.getD 0 0) ≠ 241 := fun e => by
            have : sz (x.getD 0 0) = tb (x.getD 0 0) % 8 := rfl
            omega
          exact drs3 x hx hge h4 (by omega) (by simpa using h5)
      · split at h1
        · split at h1
          · cases h1
          · cases h1
        · cases h1
end Go.Proofs.YtphaholcndhonaaDoor
namespace Go.Proofs.YtphaholcndhonaaDoor
open Go Go.RowKit Go.Proofs.YtphaholcndhonaaDoor.Ab
set_option linter.unusedSimpArgs false
set_option linter.unusedVariables false

theorem ge_of_dec {x : Byt} (hd : (decX x).1 = 65533) : 128 ≤ (x.getD 0 0).toNat := by
  rcases Nat.lt_or_ge (x.getD 0 0).toNat 128 with h | h
  · have e : (x.getD 0 0).toNat = bN x 0 := rfl
    unfold decX at hd
    rw [if_pos (by omega)] at hd
    have hd : bN x 0 = 65533 := hd
    omega
  · exact h
set_option maxRecDepth 10000 in
set_option maxHeartbeats 2000000 in
theorem dr_fn (x : Byt) (r : Int) (hx : x ≠ []) (ha : 128 ≤ (x.getD 0 0).toNat) (h : FnG Tryd.prog 169 gK [.one (.e (eBytes x))] (.tup [(false, .es [.v (.int .i32 r)]), (false, .es [eI (dN x)])])) : FnG Tryd.prog 140 gK [.one (.e (eBytes x))] (.tup [(false, .es [.v (.int .i32 r)]), (false, .es [eI (dN x)])]) := by
  refine fn_introG (T := tab) tOk Tryd.func140 rfl (by kernel_rfl) (by simp [Tryd.ntmps140]) ?_
  intro X hX
  have hnt : X.nt = 22 := hX
  clear hX
  have hpos : 0 < x.length := List.length_pos_iff.2 hx
  have ll : (eCells x).length = x.length := List.length_map ..
  have hm : ((eCells x).length : Int) = (x.length : Int) := by rw [ll]
  have g0 : (eCells x).getD (Int.toNat (0 : Nat)) [] = [eB (x.getD 0 0)] := cAt hpos
  repeat' (first | refine tr_seq ?_ | refine tr_block ?_ | refine tr_skip ?_)
  first | refine reg (T := tab) tOk hnt rfl ?_ ?_ | refine regD (T := tab) tOk mixedR hnt rfl (by first | decide +kernel | kernel_rfl) ?_ ?_
  · (dsimp only [AllP]; (repeat' first | exact trivial | assumption | exact Nat.le_of_ble_eq_true rfl | apply And.intro | decide | intro _ | exact rfl))
  repeat' (first | refine tr_seq ?_ | refine tr_block ?_ | refine tr_skip ?_)
  first | refine reg (T := tab) tOk hnt rfl ?_ ?_ | refine regD (T := tab) tOk mixedR hnt rfl (by first | decide +kernel | kernel_rfl) ?_ ?_
  · (dsimp only [AllP]; (repeat' first | exact trivial | assumption | exact Nat.le_of_ble_eq_true rfl | apply And.intro | decide | intro _ | exact rfl))
  rw [hm]
  repeat' (first | refine tr_seq ?_ | refine tr_block ?_ | refine tr_skip ?_)
  refine tr_loop (σ := Unit) (fun _u => St.of [(0, .one (.e (eBytes x))), (6, .one (.e (eBytes x))), (7, .one (.e (eI (x.length : Int)))), (8, .one (.e (eI ((0 : Nat) : Int)))), ((1000000 + 0), .one (.eptr fsE)), ((1000000 + 1), .one (.eptr acE))] []) (fun _u => True) (fun _u => 0) (()) (le_of (ad := []) (by refine ⟨?_, ?_, ?_, ?_, ?_, ?_, trivial⟩ <;> first | exact trivial | rfl | exact ⟨rfl, rfl⟩ | exact ⟨rfl, rfl, rfl⟩ | exact ⟨rfl, rfl, rfl, rfl⟩ | exact ⟨rfl, rfl, rfl, rfl, rfl⟩ | exact congrArg (fun z : Int => E.v (.int .i64 z)) (wrap64_id (by omega) (by omega)) | exact congrArg (fun z : Int => E.v (.int .u8 z)) (by assumption) | exact congrArg (fun z : ByteArray => E.v (.string z)) (by assumption) | (refine ⟨rfl, ?_⟩; repeat' first | exact trivial | rfl | apply And.intro)) trivial) trivial ?_
  rintro _ _
  repeat' (first | refine tr_seq ?_ | refine reg (T := tab) tOk hnt rfl ?_ ?_ | refine regD (T := tab) tOk mixedR hnt rfl (by first | decide +kernel | kernel_rfl) ?_ ?_ | refine tr_block ?_ | refine tr_skip ?_)
  · (dsimp only [AllP]; (repeat' first | exact trivial | assumption | exact Nat.le_of_ble_eq_true rfl | apply And.intro | decide | intro _ | exact rfl))
  repeat' (first | refine tr_seq ?_ | refine tr_block ?_ | refine tr_skip ?_)
  refine tr_cond rfl (fun hc => ?_) (fun hc => ?_)
  · have e1 : (Cs.es ((eCells x).getD (Int.toNat (0 : Nat)) [])).len = 1 := by rw [g0]; rfl
    have e2 : ((eCells x).getD (Int.toNat (0 : Nat)) []).length = 1 := by rw [g0]; rfl
    have e3 : D0.isA (K.int .u8) ((Cs.es ((eCells x).getD (Int.toNat (0 : Nat)) [])).at 0) := by rw [g0]; rfl
    have e4 : ((0 : Nat) : Int) < ((eCells x).length : Int) := by rw [hm]; omega
    have e5 : 0 < (Cs.es ((eCells x).getD (Int.toNat (0 : Nat)) [])).len := by rw [e1]; decide
    repeat' (first | refine tr_seq ?_ | refine tr_block ?_ | refine tr_skip ?_)
    first | refine reg (T := tab) tOk hnt rfl ?_ ?_ | refine regD (T := tab) tOk mixedR hnt rfl (by first | decide +kernel | kernel_rfl) ?_ ?_
    · (dsimp only [AllP]; (repeat' first | exact trivial | assumption | exact Nat.le_of_ble_eq_true rfl | apply And.intro | exact eCells_len1 _ _ ‹_› | exact eCells_isByte _ _ ‹_› | (intro hh_; have hg_ := hh_; (try simp only [condT_ff, condF_tt, notE_t, notE_f, Bool.and_eq_true, ne_eq, decide_eq_true_eq, decide_eq_false_iff_not] at hg_)) | intro _ | exact rfl | omega))
    rw [g0]
    rw [show ([eB (x.getD 0 0)].getD 0 E.dflt).int = ((x.getD 0 0).toNat : Int) from rfl]
    repeat' (first | refine tr_seq ?_ | refine tr_block ?_ | refine tr_skip ?_)
    first | refine reg (T := tab) tOk hnt rfl ?_ ?_ | refine regD (T := tab) tOk mixedR hnt rfl (by first | decide +kernel | kernel_rfl) ?_ ?_
    · (dsimp only [AllP]; (repeat' first | exact trivial | assumption | exact Nat.le_of_ble_eq_true rfl | apply And.intro | decide | intro _ | exact rfl))
    repeat' (first | refine tr_seq ?_ | refine tr_block ?_ | refine tr_skip ?_)
    refine tr_cond rfl (fun hc => ?_) (fun hc => ?_)
    · simp only [condT_tt, condT_ff, condF_tt, condF_ff, notE_t, notE_f, decide_eq_true_eq, decide_eq_false_iff_not] at hc
      exact absurd hc (by omega)
    repeat' (first | refine tr_seq ?_ | refine tr_block ?_ | refine tr_skip ?_)
    refine tr_exit ?_
    repeat' (first | refine tr_seq ?_ | refine tr_block ?_ | refine tr_skip ?_)
    refine tr_region (lex (T := tab) tOk hnt rfl ?_ (callV rfl rfl rfl rfl rfl rfl rfl hnt rfl (h) (lex (T := tab) tOk hnt rfl ?_ (Lex.nil _)))) ?_
    · (dsimp only [AllP]; (repeat' first | exact trivial | assumption | exact Nat.le_of_ble_eq_true rfl | apply And.intro | decide | intro _ | exact rfl))
    · (dsimp only [AllP]; (repeat' first | exact trivial | assumption | exact Nat.le_of_ble_eq_true rfl | apply And.intro | decide | intro _ | exact rfl))
    exact tr_ret ⟨.inr rfl, _, _, rfl, trivial, rfl⟩
  simp only [condT_tt, condT_ff, condF_tt, condF_ff, notE_t, notE_f, decide_eq_true_eq, decide_eq_false_iff_not] at hc
  exact absurd hc (by omega)
theorem hasC (x y : Byt) : (bif decide (((strB y).size : Int) ≤ ((strB x).size : Int)) then strEq ((strB x).extract (Int.toNat 0) ((strB y).size : Int).toNat) (strB y) else false) = decide (x.take y.length = y) := by
  rw [strB_size, strB_size, Int.toNat_natCast, strB_extract, strEq_B]
  show (bif _ then decide ((x.take y.length).drop 0 = y) else false) = _
  rw [List.drop_zero]
  by_cases h : ((y.length : Int) ≤ (x.length : Int))
  · rw [decide_eq_true h]; rfl
  · rw [decide_eq_false h]
    symm
    rw [cond_false, decide_eq_false_iff_not]
    intro e
    have := congrArg List.length e
    rw [List.length_take] at this
    omega
set_option maxRecDepth 10000 in
set_option maxHeartbeats 2000000 in
theorem hasp0_fn (x y : Byt) : FnD Tryd.prog 139 [.one (.e (eT x)), .one (.e (eT y))] (.v (.bool (decide (x.take y.length = y)))) := by
  refine fn_intro (T := tab) tOk Tryd.func139 rfl (by kernel_rfl) (by simp [Tryd.ntmps139]) ?_
  intro X hX
  have hnt : X.nt = 18 := hX
  clear hX
  have lx : (strB x).size = x.length := strB_size x
  have ly : (strB y).size = y.length := strB_size y
  repeat' (first | refine tr_seq ?_ | refine tr_block ?_ | refine tr_skip ?_)
  first | refine reg (T := tab) tOk hnt rfl ?_ ?_ | refine regD (T := tab) tOk mixedR hnt rfl (by first | decide +kernel | kernel_rfl) ?_ ?_
  · (dsimp only [AllP]; (repeat' first | exact trivial | assumption | exact Nat.le_of_ble_eq_true rfl | apply And.intro | decide | intro _ | exact rfl))
  repeat' (first | refine tr_seq ?_ | refine tr_block ?_ | refine tr_skip ?_)
  first | refine reg (T := tab) tOk hnt rfl ?_ ?_ | refine regD (T := tab) tOk mixedR hnt rfl (by first | decide +kernel | kernel_rfl) ?_ ?_
  · rw [lx, ly]
    (dsimp only [AllP]; (repeat' first | exact trivial | assumption | exact Nat.le_of_ble_eq_true rfl | apply And.intro | exact eCells_len1 _ _ ‹_› | exact eCells_isByte _ _ ‹_› | (intro hh_; have hg_ := hh_; (try simp only [condT_ff, condF_tt, notE_t, notE_f, Bool.and_eq_true, ne_eq, decide_eq_true_eq, decide_eq_false_iff_not] at hg_)) | intro _ | exact rfl | omega))
  refine tr_ret ⟨.inr rfl, _, _, rfl, trivial, ?_⟩
  exact congrArg (fun z : Bool => D.v (.bool z)) (hasC x y)
set_option maxRecDepth 10000 in
set_option maxHeartbeats 2000000 in
theorem hasp_fn (x y : Byt) : FnD Tryd.prog 82 [.one (.e (eT x)), .one (.e (eT y))] (.v (.bool (decide (x.take y.length = y)))) := by
  refine fn_intro (T := tab) tOk Tryd.func82 rfl (by kernel_rfl) (by simp [Tryd.ntmps82]) ?_
  intro X hX
  have hnt : X.nt = 8 := hX
  clear hX
  repeat' (first | refine tr_seq ?_ | refine reg (T := tab) tOk hnt rfl ?_ ?_ | refine regD (T := tab) tOk mixedR hnt rfl (by first | decide +kernel | kernel_rfl) ?_ ?_ | refine tr_block ?_ | refine tr_skip ?_)
  · (dsimp only [AllP]; (repeat' first | exact trivial | assumption | exact Nat.le_of_ble_eq_true rfl | apply And.intro | decide | intro _ | exact rfl))
  repeat' (first | refine tr_seq ?_ | refine tr_block ?_ | refine tr_skip ?_)
  refine tr_region (lex (T := tab) tOk hnt rfl ?_ (call rfl rfl rfl rfl rfl rfl rfl hnt ((hasp0_fn x y)) (lex (T := tab) tOk hnt rfl ?_ (Lex.nil _)))) ?_
  · (dsimp only [AllP]; (repeat' first | exact trivial | assumption | exact Nat.le_of_ble_eq_true rfl | apply And.intro | decide | intro _ | exact rfl))
  · (dsimp only [AllP]; (repeat' first | exact trivial | assumption | exact Nat.le_of_ble_eq_true rfl | apply And.intro | decide | intro _ | exact rfl))
  exact tr_ret ⟨.inr rfl, _, _, rfl, trivial, rfl⟩
set_option maxRecDepth 10000 in
set_option maxHeartbeats 2000000 in
theorem noLine_fn (c : UInt8) : FnD Tryd.prog 84 [.one (.e (eB c))] (.v (.bool (!decide (c.toNat = 10)))) := by
  refine fn_intro (T := tab) tOk Tryd.func84 rfl (by kernel_rfl) (by simp [Tryd.ntmps84]) ?_
  intro X hX
  have hnt : X.nt = 5 := hX
  clear hX
  repeat' (first | refine tr_seq ?_ | refine reg (T := tab) tOk hnt rfl ?_ ?_ | refine regD (T := tab) tOk mixedR hnt rfl (by first | decide +kernel | kernel_rfl) ?_ ?_ | refine tr_block ?_ | refine tr_skip ?_)
  · (dsimp only [AllP]; (repeat' first | exact trivial | assumption | exact Nat.le_of_ble_eq_true rfl | apply And.intro | decide | intro _ | exact rfl))
  · (dsimp only [AllP]; (repeat' first | exact trivial | assumption | exact Nat.le_of_ble_eq_true rfl | apply And.intro | decide | intro _ | exact rfl))
  refine tr_ret ⟨.inr rfl, _, _, rfl, trivial, ?_⟩
  refine congrArg (fun z : Bool => D.v (.bool z)) ?_
  show (!decide ((c.toNat : Int) = 10)) = _
  congr 2
  apply propext
  omega
theorem sc0 (s : Byt) (j : Int) : ([eT s, eI j].getD (0 + 0) E.dflt).str = strB s := rfl
theorem sc1 (s : Byt) (j : Int) : ([eT s, eI j].getD (0 + 1) E.dflt).int = j := rfl
/-- a scanner -/
def msS (s : Byt) (i : Nat) : List (Nat × Blk) := [(900000, ⟨0, .box (.es [eT s, eI (i : Int)]), 0⟩)]
def rnL (q : UInt8 → Bool) (s : Byt) (i : Nat) : Nat := ((s.drop i).takeWhile q).length
theorem tw_take {α : Type} (q : α → Bool) : ∀ l : List α, l.take (l.takeWhile q).length = l.takeWhile q
  | [] => rfl
  | a :: l => by
    rw [List.takeWhile_cons]
    split
    · rw [List.length_cons, List.take_succ_cons, tw_take q l]
    · rfl
theorem rnL_s {q : UInt8 → Bool} {s : Byt} {i : Nat} (h : i < s.length) (hq : q (s.getD i 0) = true) : rnL q s i = rnL q s (i + 1) + 1 := by
  unfold rnL
  rw [drop_getD (d := 0) h, List.takeWhile_cons, if_pos hq, List.length_cons]
theorem rnL_e {q : UInt8 → Bool} {s : Byt} {i : Nat} (h : ¬ (i < s.length ∧ q (s.getD i 0) = true)) : rnL q s i = 0 := by
  unfold rnL
  by_cases hl : i < s.length
  · rw [drop_getD (d := 0) hl, List.takeWhile_cons, if_neg (fun e => h ⟨hl, e⟩)]
    rfl
  · rw [List.drop_eq_nil_of_le (by omega)]
    rfl
theorem rnL_le {q : UInt8 → Bool} {s : Byt} {i : Nat} (h : i ≤ s.length) : i + rnL q s i ≤ s.length := by
  unfold rnL
  have : ((s.drop i).takeWhile q).length ≤ (s.drop i).length := (List.takeWhile_sublist q).length_le
  rw [List.length_drop] at this
  omega
set_option maxRecDepth 10000 in
set_option maxHeartbeats 2000000 in
theorem run_fn (f : Nat) (q : UInt8 → Bool) (hf : ∀ c, FnD Tryd.prog f [.one (.e (eB c))] (.v (.bool (q c)))) (s : Byt) (i : Nat) (hi : i ≤ s.length) (hs : s.length ≤ 300) : FnH Tryd.prog 83 [] (msS s i) [.one (.ptr 900000 0 0), .one (.clo f [])] (.one (.e (eT ((s.drop i).takeWhile q)))) (msS s (i + rnL q s i)) := by
  refine fn_introH (T := tab) tOk Tryd.func83 rfl (by kernel_rfl) (by simp [Tryd.ntmps83]) rfl rfl ?_
  intro X hX
  have hnt : X.nt = 50 := hX
  clear hX
  have ls : (strB s).size = s.length := strB_size s
  repeat' (first | refine tr_seq ?_ | refine tr_block ?_ | refine tr_skip ?_)
  first | refine reg (T := tab) tOk hnt rfl ?_ ?_ | refine regD (T := tab) tOk mixedR hnt rfl (by first | decide +kernel | kernel_rfl) ?_ ?_
  · (dsimp only [AllP]; (repeat' first | exact trivial | assumption | exact Nat.le_of_ble_eq_true rfl | apply And.intro | decide | intro _ | exact rfl))
  repeat' (first | refine tr_seq ?_ | refine tr_block ?_ | refine tr_skip ?_)
  first | refine reg (T := tab) tOk hnt rfl ?_ ?_ | refine regD (T := tab) tOk mixedR hnt rfl (by first | decide +kernel | kernel_rfl) ?_ ?_
  · (dsimp only [AllP]; (repeat' first | exact trivial | assumption | exact Nat.le_of_ble_eq_true rfl | apply And.intro | decide | intro _ | exact rfl))
  repeat' (first | refine tr_seq ?_ | refine tr_block ?_ | refine tr_skip ?_)
  refine tr_loop (σ := Nat) (fun j => St.of [(0, .one (.ptr 900000 0 0)), (1, .one (.clo f [])), (5, .one (.e (eI (i : Int)))), (900000, .one (.ptr 900000 0 0))] [(900000, ⟨0, .box (.es [eT s, eI (j : Int)]), 0⟩)]) (fun j => j + rnL q s j = i + rnL q s i ∧ j ≤ s.length) (fun j => s.length - j) (i) (le_of (ad := []) (by refine ⟨?_, ?_, ?_, ?_, trivial⟩ <;> first | exact trivial | rfl | exact ⟨rfl, rfl⟩ | exact ⟨rfl, rfl, rfl⟩ | exact ⟨rfl, rfl, rfl, rfl⟩ | exact ⟨rfl, rfl, rfl, rfl, rfl⟩ | exact congrArg (fun z : Int => E.v (.int .i64 z)) (wrap64_id (by omega) (by omega)) | exact congrArg (fun z : Int => E.v (.int .u8 z)) (by assumption) | exact congrArg (fun z : ByteArray => E.v (.string z)) (by assumption) | (refine ⟨rfl, ?_⟩; repeat' first | exact trivial | rfl | apply And.intro)) (memOk_box rfl rfl rfl trivial)) ⟨rfl, hi⟩ ?_
  rintro j ⟨hj, jl⟩
  have hfj := hf ((strB s).data.toList.getD (Int.toNat (j : Int)) 0)
  repeat' (first | refine tr_seq ?_ | refine tr_block ?_ | refine tr_skip ?_)
  refine tr_draw (T := tab) tOk hnt mixedR (lexD (T := tab) rfl ?_ (callGD rfl rfl rfl rfl rfl rfl rfl rfl (fun hq => ?_) (fun hq => hfj) (lexD (T := tab) rfl ?_ (.nil _)))) (by first | decide +kernel | kernel_rfl) ?_
  · simp only [sc0, sc1, strB_size]
    (dsimp only [AllP]; (repeat' first | exact trivial | assumption | exact Nat.le_of_ble_eq_true rfl | apply And.intro | exact eCells_len1 _ _ ‹_› | exact eCells_isByte _ _ ‹_› | (intro hh_; have hg_ := hh_; (try simp only [condT_ff, condF_tt, notE_t, notE_f, Bool.and_eq_true, ne_eq, decide_eq_true_eq, decide_eq_false_iff_not] at hg_)) | intro _ | exact rfl | omega))
  · first | (dsimp only [AllP]; (repeat' first | exact trivial | assumption | exact Nat.le_of_ble_eq_true rfl | apply And.intro | decide | intro _ | exact rfl)) | (simp only [sc0, sc1, strB_size]; (dsimp only [AllP]; (repeat' first | exact trivial | assumption | exact Nat.le_of_ble_eq_true rfl | apply And.intro | exact eCells_len1 _ _ ‹_› | exact eCells_isByte _ _ ‹_› | (intro hh_; have hg_ := hh_; (try simp only [condT_ff, condF_tt, notE_t, notE_f, Bool.and_eq_true, ne_eq, decide_eq_true_eq, decide_eq_false_iff_not] at hg_)) | intro _ | exact rfl | omega)))
  · first | (dsimp only [AllP]; (repeat' first | exact trivial | assumption | exact Nat.le_of_ble_eq_true rfl | apply And.intro | decide | intro _ | exact rfl)) | (simp only [sc0, sc1, strB_size]; (dsimp only [AllP]; (repeat' first | exact trivial | assumption | exact Nat.le_of_ble_eq_true rfl | apply And.intro | exact eCells_len1 _ _ ‹_› | exact eCells_isByte _ _ ‹_› | (intro hh_; have hg_ := hh_; (try simp only [condT_ff, condF_tt, notE_t, notE_f, Bool.and_eq_true, ne_eq, decide_eq_true_eq, decide_eq_false_iff_not] at hg_)) | intro _ | exact rfl | omega)))
  have hcx : (bif decide (([eT s, eI (j : Int)].getD (0 + 1) E.dflt).int < ((([eT s, eI (j : Int)].getD (0 + 0) E.dflt).str.size : Nat) : Int)) then q ((strB s).data.toList.getD (Int.toNat (j : Int)) 0) else false) = decide (j < s.length ∧ q (s.getD j 0) = true) := by
    rw [sc0, sc1, strB_size, strB_list, Int.toNat_natCast]
    by_cases h : j < s.length
    · rw [decide_eq_true (by omega : (j : Int) < (s.length : Int)), cond_true]
      cases hq : q (s.getD j 0) <;> simp [h]
    · rw [decide_eq_false (by omega : ¬ (j : Int) < (s.length : Int)), cond_false, decide_eq_false (fun e => h e.1)]
  repeat' (first | refine tr_seq ?_ | refine tr_block ?_ | refine tr_skip ?_)
  refine tr_cond rfl (fun hc => ?_) (fun hc => ?_)
  · have hc := of_decide_eq_true (hcx.symm.trans hc)
    have := rnL_s hc.1 hc.2
    repeat' (first | refine tr_seq ?_ | refine tr_block ?_ | refine tr_skip ?_)
    first | refine reg (T := tab) tOk hnt rfl ?_ ?_ | refine regD (T := tab) tOk mixedR hnt rfl (by first | decide +kernel | kernel_rfl) ?_ ?_
    · simp only [sc0, sc1, strB_size]
      (dsimp only [AllP]; (repeat' first | exact trivial | assumption | exact Nat.le_of_ble_eq_true rfl | apply And.intro | exact eCells_len1 _ _ ‹_› | exact eCells_isByte _ _ ‹_› | (intro hh_; have hg_ := hh_; (try simp only [condT_ff, condF_tt, notE_t, notE_f, Bool.and_eq_true, ne_eq, decide_eq_true_eq, decide_eq_false_iff_not] at hg_)) | intro _ | exact rfl | omega))
    refine ⟨j + 1, ⟨by omega, by omega⟩, by omega, le_of (ad := []) (by refine ⟨?_, ?_, ?_, ?_, trivial⟩ <;> first | exact trivial | rfl | exact ⟨rfl, rfl⟩ | exact ⟨rfl, rfl, rfl⟩ | exact ⟨rfl, rfl, rfl, rfl⟩ | exact ⟨rfl, rfl, rfl, rfl, rfl⟩ | exact congrArg (fun z : Int => E.v (.int .i64 z)) (wrap64_id (by omega) (by omega)) | exact congrArg (fun z : Int => E.v (.int .u8 z)) (by assumption) | exact congrArg (fun z : ByteArray => E.v (.string z)) (by assumption) | (refine ⟨rfl, ?_⟩; repeat' first | exact trivial | rfl | apply And.intro)) (memOk_box rfl rfl (congrArg (fun z : Int => [eT s, eI z]) (wrap64_id (n := (j : Int) + 1) (by omega) (by omega))) trivial)⟩
  have hc := of_decide_eq_false (hcx.symm.trans hc)
  have h0 := rnL_e hc
  rw [h0, Nat.add_zero] at hj
  subst hj
  refine tr_exit ?_
  repeat' (first | refine tr_seq ?_ | refine tr_block ?_ | refine tr_skip ?_)
  first | refine reg (T := tab) tOk hnt rfl ?_ ?_ | refine regD (T := tab) tOk mixedR hnt rfl (by first | decide +kernel | kernel_rfl) ?_ ?_
  · simp only [sc0, sc1, strB_size]
    (dsimp only [AllP]; (repeat' first | exact trivial | assumption | exact Nat.le_of_ble_eq_true rfl | apply And.intro | exact eCells_len1 _ _ ‹_› | exact eCells_isByte _ _ ‹_› | (intro hh_; have hg_ := hh_; (try simp only [condT_ff, condF_tt, notE_t, notE_f, Bool.and_eq_true, ne_eq, decide_eq_true_eq, decide_eq_false_iff_not] at hg_)) | intro _ | exact rfl | omega))
  have hex : (strB s).extract (Int.toNat (i : Int)) (Int.toNat ((i + rnL q s i : Nat) : Int)) = strB ((s.drop i).takeWhile q) := by
    rw [strB_extract, Int.toNat_natCast, Int.toNat_natCast, List.drop_take, Nat.add_sub_cancel_left]
    exact congrArg strB (tw_take q _)
  exact tr_ret ⟨.inr rfl, _, _, _, rfl, trivial, rfl, fun X => le_of (ad := []) ⟨congrArg (fun z : ByteArray => E.v (.string z)) hex, ⟨rfl, rfl, rfl, rfl, rfl⟩, trivial⟩ (memOk_box rfl rfl rfl trivial)⟩
end Go.Proofs.YtphaholcndhonaaDoor
namespace Go.Proofs.YtphaholcndhonaaDoor
open Go Go.RowKit Go.Proofs.YtphaholcndhonaaDoor.Ab
set_option linter.unusedSimpArgs false
set_option linter.unusedVariables false

def blB (c : UInt8) : Bool := bif (bif decide ((c.toNat : Int) = 32) then true else decide ((c.toNat : Int) = 9)) then true else decide ((c.toNat : Int) = 10)
def nlB (c : UInt8) : Bool := !decide (c.toNat = 10)
def dd (r : Byt) : Prop := r.take 2 = [45, 45]
instance (r : Byt) : Decidable (dd r) := inferInstanceAs (Decidable (_ = _))
def blN : Nat → Byt → Byt
  | 0, r => r
  | _ + 1, [] => []
  | n + 1, c :: t => bif blB c then blN n t else if dd (c :: t) then blN n ((c :: t).dropWhile nlB) else c :: t
/-- what is left behind blanks and remarks -/
def bl (r : Byt) : Byt := blN r.length r
theorem dd_drop {c : UInt8} {t : Byt} (h : dd (c :: t)) : ((c :: t).dropWhile nlB).length ≤ t.length := by
  have hc : c = 45 := by
    unfold dd at h
    rw [List.take_succ_cons] at h
    exact (List.cons.inj h).1
  subst hc
  rw [List.dropWhile_cons, if_pos (by decide)]
  exact (List.dropWhile_sublist _).length_le
theorem blN_eq : ∀ (n m : Nat) (r : Byt), r.length ≤ n → r.length ≤ m → blN n r = blN m r
  | 0, 0, _, _, _ => rfl
  | 0, m + 1, r, h, _ => by rw [List.eq_nil_of_length_eq_zero (Nat.le_zero.1 h)]; rfl
  | n + 1, 0, r, _, h => by rw [List.eq_nil_of_length_eq_zero (Nat.le_zero.1 h)]; rfl
  | n + 1, m + 1, [], _, _ => rfl
  | n + 1, m + 1, c :: t, h1, h2 => by
    rw [List.length_cons] at h1 h2
    rw [blN, blN]
    cases blB c with
    | true => exact blN_eq n m t (by omega) (by omega)
    | false =>
      rw [cond_false, cond_false]
      by_cases hd : dd (c :: t)
      · have := dd_drop hd
        rw [if_pos hd, if_pos hd]
        exact blN_eq n m _ (by omega) (by omega)
      · rw [if_neg hd, if_neg hd]
theorem bl_nil : bl [] = [] := rfl
theorem bl_b {c : UInt8} {t : Byt} (h : blB c = true) : bl (c :: t) = bl t := by
  unfold bl
  rw [List.length_cons, blN, h, cond_true]
theorem bl_r {c : UInt8} {t : Byt} (h : blB c = false) (hd : dd (c :: t)) : bl (c :: t) = bl ((c :: t).dropWhile nlB) := by
  unfold bl
  rw [List.length_cons, blN, h, cond_false, if_pos hd]
  exact blN_eq _ _ _ (dd_drop hd) (Nat.le_refl _)
theorem bl_e {c : UInt8} {t : Byt} (h : blB c = false) (hd : ¬ dd (c :: t)) : bl (c :: t) = c :: t := by
  unfold bl
  rw [List.length_cons, blN, h, cond_false, if_neg hd]
theorem dw_drop {α : Type} (q : α → Bool) : ∀ l : List α, l.dropWhile q = l.drop (l.takeWhile q).length
  | [] => rfl
  | a :: l => by
    rw [List.dropWhile_cons, List.takeWhile_cons]
    split
    · rw [List.length_cons, List.drop_succ_cons, dw_drop q l]
    · rfl
theorem bl_len (r : Byt) : (bl r).length ≤ r.length := by
  have : ∀ (n : Nat) (r : Byt), (blN n r).length ≤ r.length := by
    intro n
    induction n with
    | zero => intro r; exact Nat.le_refl _
    | succ n ih =>
      intro r
      cases r with
      | nil => exact Nat.le_refl _
      | cons c t =>
        rw [blN]
        cases blB c with
        | true => exact Nat.le_trans (ih t) (by simp)
        | false =>
          rw [cond_false]
          split
          · exact Nat.le_trans (ih _) (List.dropWhile_sublist _).length_le
          · exact Nat.le_refl _
  exact this _ r
theorem line_fn (c : UInt8) : FnD Tryd.prog 84 [.one (.e (eB c))] (.v (.bool (nlB c))) := noLine_fn c
/-- where a scanner stands behind blanks -/
def blA (s : Byt) (i : Nat) : Nat := s.length - (bl (s.drop i)).length
set_option maxRecDepth 10000 in
set_option maxHeartbeats 2000000 in
theorem blanks_fn (s : Byt) (i : Nat) (hi : i ≤ s.length) (hs : s.length ≤ 300) : FnH Tryd.prog 44 [] (msS s i) [.one (.ptr 900000 0 0)] (.tup []) (msS s (blA s i)) := by
  refine fn_introH (T := tab) tOk Tryd.func44 rfl (by kernel_rfl) (by simp [Tryd.ntmps44]) rfl rfl ?_
  intro X hX
  have hnt : X.nt = 67 := hX
  clear hX
  repeat' (first | refine tr_seq ?_ | refine tr_block ?_ | refine tr_skip ?_)
  refine tr_loop (σ := Nat) (fun j => St.of [(0, .one (.ptr 900000 0 0)), (900000, .one (.ptr 900000 0 0))] [(900000, ⟨0, .box (.es [eT s, eI (j : Int)]), 0⟩)]) (fun j => bl (s.drop j) = bl (s.drop i) ∧ j ≤ s.length) (fun j => s.length - j) (i) (le_of (ad := []) (by refine ⟨?_, ?_, trivial⟩ <;> first | exact trivial | rfl | exact ⟨rfl, rfl⟩ | exact ⟨rfl, rfl, rfl⟩ | exact ⟨rfl, rfl, rfl, rfl⟩ | exact ⟨rfl, rfl, rfl, rfl, rfl⟩ | exact congrArg (fun z : Int => E.v (.int .i64 z)) (wrap64_id (by omega) (by omega)) | exact congrArg (fun z : Int => E.v (.int .u8 z)) (by assumption) | exact congrArg (fun z : ByteArray => E.v (.string z)) (by assumption) | (refine ⟨rfl, ?_⟩; repeat' first | exact trivial | rfl | apply And.intro)) (memOk_box rfl rfl rfl trivial)) ⟨rfl, hi⟩ ?_
  rintro j ⟨hj, jl⟩
  have ls : (strB s).size = s.length := strB_size s
  repeat' (first | refine tr_seq ?_ | refine tr_block ?_ | refine tr_skip ?_)
  first | refine reg (T := tab) tOk hnt rfl ?_ ?_ | refine regD (T := tab) tOk mixedR hnt rfl (by first | decide +kernel | kernel_rfl) ?_ ?_
  · simp only [sc0, sc1, strB_size]
    (dsimp only [AllP]; (repeat' first | exact trivial | assumption | exact Nat.le_of_ble_eq_true rfl | apply And.intro | exact eCells_len1 _ _ ‹_› | exact eCells_isByte _ _ ‹_› | (intro hh_; have hg_ := hh_; (try simp only [condT_ff, condF_tt, notE_t, notE_f, Bool.and_eq_true, ne_eq, decide_eq_true_eq, decide_eq_false_iff_not] at hg_)) | intro _ | exact rfl | omega))
  repeat' (first | refine tr_seq ?_ | refine tr_block ?_ | refine tr_skip ?_)
  refine tr_cond rfl (fun hc => ?_) (fun hc => ?_)
  · have hc : (j : Int) < (((strB s).size : Nat) : Int) := of_decide_eq_true hc
    have hlt : j < s.length := by omega
    rw [drop_getD (d := 0) hlt] at hj
    repeat' (first | refine tr_seq ?_ | refine tr_block ?_ | refine tr_skip ?_)
    first | refine reg (T := tab) tOk hnt rfl ?_ ?_ | refine regD (T := tab) tOk mixedR hnt rfl (by first | decide +kernel | kernel_rfl) ?_ ?_
    · simp only [sc0, sc1, strB_size]
      (dsimp only [AllP]; (repeat' first | exact trivial | assumption | exact Nat.le_of_ble_eq_true rfl | apply And.intro | exact eCells_len1 _ _ ‹_› | exact eCells_isByte _ _ ‹_› | (intro hh_; have hg_ := hh_; (try simp only [condT_ff, condF_tt, notE_t, notE_f, Bool.and_eq_true, ne_eq, decide_eq_true_eq, decide_eq_false_iff_not] at hg_)) | intro _ | exact rfl | omega))
    have hcb : (bif (bif decide ((((strB s).data.toList.getD (Int.toNat (j : Int)) 0).toNat : Int) = 32) then true else decide ((((strB s).data.toList.getD (Int.toNat (j : Int)) 0).toNat : Int) = 9)) then true else decide ((((strB s).data.toList.getD (Int.toNat (j : Int)) 0).toNat : Int) = 10)) = blB (s.getD j 0) := by
      rw [strB_list, Int.toNat_natCast]
      rfl
    repeat' (first | refine tr_seq ?_ | refine tr_block ?_ | refine tr_skip ?_)
    refine tr_cond rfl (fun hc => ?_) (fun hc => ?_)
    · have hc : blB (s.getD j 0) = true := hcb.symm.trans hc
      rw [bl_b hc] at hj
      repeat' (first | refine tr_seq ?_ | refine tr_block ?_ | refine tr_skip ?_)
      first | refine reg (T := tab) tOk hnt rfl ?_ ?_ | refine regD (T := tab) tOk mixedR hnt rfl (by first | decide +kernel | kernel_rfl) ?_ ?_
      · simp only [sc0, sc1, strB_size]
        (dsimp only [AllP]; (repeat' first | exact trivial | assumption | exact Nat.le_of_ble_eq_true rfl | apply And.intro | exact eCells_len1 _ _ ‹_› | exact eCells_isByte _ _ ‹_› | (intro hh_; have hg_ := hh_; (try simp only [condT_ff, condF_tt, notE_t, notE_f, Bool.and_eq_true, ne_eq, decide_eq_true_eq, decide_eq_false_iff_not] at hg_)) | intro _ | exact rfl | omega))
      repeat' (first | refine tr_seq ?_ | refine tr_block ?_ | refine tr_skip ?_)
      refine ⟨j + 1, ⟨hj, by omega⟩, by omega, le_of (ad := []) (by refine ⟨?_, ?_, trivial⟩ <;> first | exact trivial | rfl | exact ⟨rfl, rfl⟩ | exact ⟨rfl, rfl, rfl⟩ | exact ⟨rfl, rfl, rfl, rfl⟩ | exact ⟨rfl, rfl, rfl, rfl, rfl⟩ | exact congrArg (fun z : Int => E.v (.int .i64 z)) (wrap64_id (by omega) (by omega)) | exact congrArg (fun z : Int => E.v (.int .u8 z)) (by assumption) | exact congrArg (fun z : ByteArray => E.v (.string z)) (by assumption) | (refine ⟨rfl, ?_⟩; repeat' first | exact trivial | rfl | apply And.intro)) (memOk_box rfl rfl (congrArg (fun z : Int => [eT s, eI z]) (wrap64_id (n := (j : Int) + 1) (by omega) (by omega))) trivial)⟩
    have hc : blB (s.getD j 0) = false := hcb.symm.trans hc
    have hh : FnD Tryd.prog 82 [.one (.e (.v (.string ((strB s).extract (Int.toNat (j : Int)) (Int.toNat ((strB s).size : Int)))))), .one (.e (.v (.string ⟨#[45, 45]⟩)))] (.v (.bool (decide (dd (s.drop j))))) := by
      rw [Int.toNat_natCast, strB_from]
      exact hasp_fn (s.drop j) [45, 45]
    repeat' (first | refine tr_seq ?_ | refine tr_block ?_ | refine tr_skip ?_)
    refine tr_draw (T := tab) tOk hnt mixedR (lexD (T := tab) rfl ?_ (callD rfl rfl rfl rfl rfl rfl rfl rfl (hh) (lexD (T := tab) rfl ?_ (.nil _)))) (by first | decide +kernel | kernel_rfl) ?_
    · first | (simp only [sc0, sc1, strB_size]; (dsimp only [AllP]; (repeat' first | exact trivial | assumption | exact Nat.le_of_ble_eq_true rfl | apply And.intro | exact eCells_len1 _ _ ‹_› | exact eCells_isByte _ _ ‹_› | (intro hh_; have hg_ := hh_; (try simp only [condT_ff, condF_tt, notE_t, notE_f, Bool.and_eq_true, ne_eq, decide_eq_true_eq, decide_eq_false_iff_not] at hg_)) | intro _ | exact rfl | omega)); done) | ((dsimp only [AllP]; (repeat' first | exact trivial | assumption | exact Nat.le_of_ble_eq_true rfl | apply And.intro | decide | intro _ | exact rfl)); done)
    · first | (simp only [sc0, sc1, strB_size]; (dsimp only [AllP]; (repeat' first | exact trivial | assumption | exact Nat.le_of_ble_eq_true rfl | apply And.intro | exact eCells_len1 _ _ ‹_› | exact eCells_isByte _ _ ‹_› | (intro hh_; have hg_ := hh_; (try simp only [condT_ff, condF_tt, notE_t, notE_f, Bool.and_eq_true, ne_eq, decide_eq_true_eq, decide_eq_false_iff_not] at hg_)) | intro _ | exact rfl | omega)); done) | ((dsimp only [AllP]; (repeat' first | exact trivial | assumption | exact Nat.le_of_ble_eq_true rfl | apply And.intro | decide | intro _ | exact rfl)); done)
    repeat' (first | refine tr_seq ?_ | refine tr_block ?_ | refine tr_skip ?_)
    refine tr_cond rfl (fun hc => ?_) (fun hc => ?_)
    · have hd : dd (s.drop j) := of_decide_eq_true hc
      have hrl := rnL_le (q := nlB) (s := s) (i := j) jl
      have hdr : s.drop (j + rnL nlB s j) = (s.drop j).dropWhile nlB := by
        rw [dw_drop, List.drop_drop]
        rfl
      have hrun := run_fn _ nlB line_fn s j jl hs
      rw [drop_getD (d := 0) hlt] at hd
      have hdd := dd_drop hd
      rw [bl_r ‹blB (s.getD j 0) = false› hd, ← drop_getD (d := 0) hlt, ← hdr] at hj
      rw [← drop_getD (d := 0) hlt, ← hdr, List.length_drop, List.length_drop] at hdd
      repeat' (first | refine tr_seq ?_ | refine tr_block ?_ | refine tr_skip ?_)
      refine tr_region (lex (T := tab) tOk hnt rfl ?_ (callH (us := []) [(900000, 900000)] [] [] rfl rfl rfl rfl (hrun) (by repeat' first | exact .nil | refine .lent rfl rfl rfl ?_ | refine .data rfl ?_) (fun _ => rfl) rfl rfl hnt rfl rfl (by repeat' first | exact trivial | rfl | apply And.intro) (by repeat' first | exact trivial | rfl | apply And.intro) (lex (T := tab) tOk hnt rfl ?_ (Lex.nil _)))) ?_
      · (dsimp only [AllP]; (repeat' first | exact trivial | assumption | exact Nat.le_of_ble_eq_true rfl | apply And.intro | exact eCells_len1 _ _ ‹_› | exact eCells_isByte _ _ ‹_› | (intro hh_; have hg_ := hh_; (try simp only [condT_ff, condF_tt, notE_t, notE_f, Bool.and_eq_true, ne_eq, decide_eq_true_eq, decide_eq_false_iff_not] at hg_)) | intro _ | exact rfl | omega))
      · (dsimp only [AllP]; (repeat' first | exact trivial | assumption | exact Nat.le_of_ble_eq_true rfl | apply And.intro | exact eCells_len1 _ _ ‹_› | exact eCells_isByte _ _ ‹_› | (intro hh_; have hg_ := hh_; (try simp only [condT_ff, condF_tt, notE_t, notE_f, Bool.and_eq_true, ne_eq, decide_eq_true_eq, decide_eq_false_iff_not] at hg_)) | intro _ | exact rfl | omega))
      repeat' (first | refine tr_seq ?_ | refine tr_block ?_ | refine tr_skip ?_)
      refine ⟨j + rnL nlB s j, ⟨hj, hrl⟩, by omega, le_of (ad := []) (by refine ⟨?_, ?_, trivial⟩ <;> first | exact trivial | rfl | exact ⟨rfl, rfl⟩ | exact ⟨rfl, rfl, rfl⟩ | exact ⟨rfl, rfl, rfl, rfl⟩ | exact ⟨rfl, rfl, rfl, rfl, rfl⟩ | exact congrArg (fun z : Int => E.v (.int .i64 z)) (wrap64_id (by omega) (by omega)) | exact congrArg (fun z : Int => E.v (.int .u8 z)) (by assumption) | exact congrArg (fun z : ByteArray => E.v (.string z)) (by assumption) | (refine ⟨rfl, ?_⟩; repeat' first | exact trivial | rfl | apply And.intro)) (memOk_box rfl rfl rfl trivial)⟩
    have hd : ¬ dd (s.drop j) := of_decide_eq_false hc
    rw [drop_getD (d := 0) hlt] at hd
    rw [bl_e ‹blB (s.getD j 0) = false› hd, ← drop_getD (d := 0) hlt] at hj
    have hA : blA s i = j := by
      unfold blA
      rw [← hj, List.length_drop]
      omega
    rw [hA]
    exact tr_ret ⟨.inr rfl, _, _, _, rfl, trivial, rfl, fun X => le_of (ad := []) ⟨trivial, ⟨rfl, rfl, rfl, rfl, rfl⟩, trivial⟩ (memOk_box rfl rfl rfl trivial)⟩
  have hc : ¬ (j : Int) < (((strB s).size : Nat) : Int) := of_decide_eq_false hc
  refine tr_exit ?_
  rw [List.drop_eq_nil_of_le (by omega), bl_nil] at hj
  have hA : blA s i = j := by
    unfold blA
    rw [← hj]
    show s.length - 0 = j
    omega
  rw [hA]
  exact ⟨.inl rfl, _, _, _, rfl, trivial, rfl, fun X => le_of (ad := []) ⟨trivial, ⟨rfl, rfl, rfl, rfl, rfl⟩, trivial⟩ (memOk_box rfl rfl rfl trivial)⟩
end Go.Proofs.YtphaholcndhonaaDoor
namespace Go.Proofs.YtphaholcndhonaaDoor
open Go Go.RowKit Go.Proofs.YtphaholcndhonaaDoor.Ab
set_option linter.unusedSimpArgs false
set_option linter.unusedVariables false

theorem getD_mem {α : Type} {l : List α} {i : Nat} {d : α} (h : i < l.length) : l.getD i d ∈ l := by
  rw [List.getD_eq_getElem?_getD, List.getElem?_eq_getElem h]
  exact List.getElem_mem h
def tok0 : Tok := ⟨0, [], 0, 0⟩
/-- a token and an error number -/
def rTk (v : Tok) (e : Int) : D := .tup [(true, .es (eTok v)), (false, .es [eI e])]
def rn1 (c : UInt8) : Nat × Nat := (c.toNat, 1)
theorem runes_ascii (t : Byt) (h : ∀ c ∈ t, c.toNat < 128) : runes (strB t) = t.map rn1 := by
  have key : ∀ (f i : Nat), i ≤ t.length → t.length ≤ i + f → runesF (strB t) f i = (t.drop i).map rn1 := by
    intro f
    induction f with
    | zero => intro i hi hf; rw [List.drop_eq_nil_of_le (by omega)]; rfl
    | succ f ih =>
      intro i hi hf
      rw [runesF, strB_size]
      by_cases hl : i < t.length
      · have hb : bN (t.drop i) 0 < 128 := by
          unfold bN
          rw [drop_getD (d := 0) hl]
          exact h _ (show t.getD i 0 ∈ t from getD_mem hl)
        rw [if_pos hl, dec_eq t i hi]
        unfold decX
        rw [if_pos hb, ih (i + 1) (by omega) (by omega), drop_getD (d := 0) hl, List.map_cons]
        unfold bN rn1
        rw [List.getD_cons_zero]
      · rw [if_neg hl, List.drop_eq_nil_of_le (by omega)]
        rfl
  unfold runes
  rw [strB_size]
  exact key t.length 0 (Nat.zero_le _) (by omega)
def numL : Nat → Byt → Option Nat
  | n, [] => some n
  | n, c :: r => if (9223372036854775807 - (c.toNat - 48)) / 10 < n then none else numL (10 * n + (c.toNat - 48)) r
def numR (t : Byt) : Nat × Int := if 1 < t.length ∧ t.getD 0 0 = 48 then (0, 3) else match numL 0 t with
  | none => (0, 6)
  | some n => (n, 0)
def numK (t : Byt) : Tok := if (numR t).2 = 0 then ⟨3, [], (numR t).1, 0⟩ else tok0
theorem digT (s : Byt) (i : Nat) : ∀ c ∈ (s.drop i).takeWhile digitB, digitB c = true := fun c hc => by
  have := List.all_takeWhile (p := digitB) (l := s.drop i)
  exact List.all_eq_true.1 this c hc
theorem dig_rng {c : UInt8} (h : digitB c = true) : 48 ≤ c.toNat ∧ c.toNat ≤ 57 := by
  unfold digitB at h
  cases h1 : decide ((48 : Int) ≤ (c.toNat : Int)) with
  | true => rw [h1] at h; have := of_decide_eq_true h1; have := of_decide_eq_true h; omega
  | false => rw [h1] at h; cases h
set_option maxRecDepth 10000 in
set_option maxHeartbeats 2000000 in
theorem number_fn (s : Byt) (i : Nat) (hi : i ≤ s.length) (hs : s.length ≤ 300) : FnH Tryd.prog 89 [] (msS s i) [.one (.ptr 900000 0 0)] (rTk (numK ((s.drop i).takeWhile digitB)) (numR ((s.drop i).takeWhile digitB)).2) (msS s (i + rnL digitB s i)) := by
  refine fn_introH (T := tab) tOk Tryd.func89 rfl (by kernel_rfl) (by simp [Tryd.ntmps89]) rfl rfl ?_
  intro X hX
  have hnt : X.nt = 40 := hX
  clear hX
  have hrun := run_fn _ digitB digit_fn s i hi hs
  have hdg := digT s i
  have htl : ((s.drop i).takeWhile digitB).length ≤ 300 := by
    have := (List.takeWhile_sublist (l := s.drop i) digitB).length_le
    rw [List.length_drop] at this
    omega
  unfold rnL
  unfold rnL at hrun
  generalize (s.drop i).takeWhile digitB = t at *
  repeat' (first | refine tr_seq ?_ | refine reg (T := tab) tOk hnt rfl ?_ ?_ | refine regD (T := tab) tOk mixedR hnt rfl (by first | decide +kernel | kernel_rfl) ?_ ?_ | refine tr_block ?_ | refine tr_skip ?_)
  · (dsimp only [AllP]; (repeat' first | exact trivial | assumption | exact Nat.le_of_ble_eq_true rfl | apply And.intro | decide | intro _ | exact rfl))
  repeat' (first | refine tr_seq ?_ | refine tr_block ?_ | refine tr_skip ?_)
  refine tr_region (lex (T := tab) tOk hnt rfl ?_ (callH (us := []) [(900000, 900000)] [] [] rfl rfl rfl rfl (hrun) (by repeat' first | exact .nil | refine .lent rfl rfl rfl ?_ | refine .data rfl ?_) (fun _ => rfl) rfl rfl hnt rfl rfl (by repeat' first | exact trivial | rfl | apply And.intro) (by repeat' first | exact trivial | rfl | apply And.intro) (lex (T := tab) tOk hnt rfl ?_ (Lex.nil _)))) ?_
  · (dsimp only [AllP]; (repeat' first | exact trivial | assumption | exact Nat.le_of_ble_eq_true rfl | apply And.intro | exact eCells_len1 _ _ ‹_› | exact eCells_isByte _ _ ‹_› | (intro hh_; have hg_ := hh_; (try simp only [condT_ff, condF_tt, notE_t, notE_f, Bool.and_eq_true, ne_eq, decide_eq_true_eq, decide_eq_false_iff_not] at hg_)) | intro _ | exact rfl | omega))
  · (dsimp only [AllP]; (repeat' first | exact trivial | assumption | exact Nat.le_of_ble_eq_true rfl | apply And.intro | exact eCells_len1 _ _ ‹_› | exact eCells_isByte _ _ ‹_› | (intro hh_; have hg_ := hh_; (try simp only [condT_ff, condF_tt, notE_t, notE_f, Bool.and_eq_true, ne_eq, decide_eq_true_eq, decide_eq_false_iff_not] at hg_)) | intro _ | exact rfl | omega))
  refine tr_le (s' := St.of [(0, .one (.ptr 900000 0 0)), (2, .one (.ptr 2 0 0)), (4, .one (.e (eT t))), (900000, .one (.ptr 900000 0 0))] [(900000, ⟨0, .box (.es [eT s, eI ((i + t.length : Nat) : Int)]), 0⟩), (2, ⟨0, .box (.es (eTok tok0)), 0⟩)]) (le_of (ad := []) (by refine ⟨?_, ?_, ?_, ?_, trivial⟩ <;> first | exact trivial | rfl | exact ⟨rfl, rfl⟩ | exact ⟨rfl, rfl, rfl⟩ | exact ⟨rfl, rfl, rfl, rfl⟩ | exact ⟨rfl, rfl, rfl, rfl, rfl⟩ | exact congrArg (fun z : Int => E.v (.int .i64 z)) (wrap64_id (by omega) (by omega)) | exact congrArg (fun z : Int => E.v (.int .u8 z)) (by assumption) | exact congrArg (fun z : ByteArray => E.v (.string z)) (by assumption) | (refine ⟨rfl, ?_⟩; repeat' first | exact trivial | rfl | apply And.intro)) (memOk_box rfl rfl rfl (memOk_box rfl rfl rfl trivial))) ?_
  have lt : (strB t).size = t.length := strB_size t
  repeat' (first | refine tr_seq ?_ | refine tr_block ?_ | refine tr_skip ?_)
  first | refine reg (T := tab) tOk hnt rfl ?_ ?_ | refine regD (T := tab) tOk mixedR hnt rfl (by first | decide +kernel | kernel_rfl) ?_ ?_
  · rw [lt]
    (dsimp only [AllP]; (repeat' first | exact trivial | assumption | exact Nat.le_of_ble_eq_true rfl | apply And.intro | exact eCells_len1 _ _ ‹_› | exact eCells_isByte _ _ ‹_› | (intro hh_; have hg_ := hh_; (try simp only [condT_ff, condF_tt, notE_t, notE_f, Bool.and_eq_true, ne_eq, decide_eq_true_eq, decide_eq_false_iff_not] at hg_)) | intro _ | exact rfl | omega))
  have hcx : (bif decide ((1 : Int) < (((strB t).size : Nat) : Int)) then decide ((((strB t).data.toList.getD (Int.toNat 0) 0).toNat : Int) = 48) else false) = decide (1 < t.length ∧ t.getD 0 0 = 48) := by
    rw [lt, strB_list]
    show (bif _ then decide (((t.getD 0 0).toNat : Int) = 48) else false) = _
    by_cases h : 1 < t.length
    · rw [decide_eq_true (by omega : (1 : Int) < (t.length : Int)), cond_true]
      congr 1
      apply propext
      constructor
      · intro e
        exact ⟨h, UInt8.toNat_inj.1 (by show _ = 48; omega)⟩
      · intro e
        rw [e.2]
        rfl
    · rw [decide_eq_false (by omega : ¬ (1 : Int) < (t.length : Int)), cond_false, decide_eq_false (fun e => h e.1)]
  repeat' (first | refine tr_seq ?_ | refine tr_block ?_ | refine tr_skip ?_)
  refine tr_cond rfl (fun hc => ?_) (fun hc => ?_)
  · have hc := of_decide_eq_true (hcx.symm.trans hc)
    have hR : numR t = (0, 3) := by unfold numR; rw [if_pos hc]
    have hK : numK t = tok0 := by unfold numK; rw [hR]; rfl
    rw [hK, hR]
    repeat' (first | refine tr_seq ?_ | refine reg (T := tab) tOk hnt rfl ?_ ?_ | refine regD (T := tab) tOk mixedR hnt rfl (by first | decide +kernel | kernel_rfl) ?_ ?_ | refine tr_block ?_ | refine tr_skip ?_)
    · (dsimp only [AllP]; (repeat' first | exact trivial | assumption | exact Nat.le_of_ble_eq_true rfl | apply And.intro | decide | intro _ | exact rfl))
    exact tr_ret ⟨.inr rfl, _, _, _, rfl, by (repeat' first | exact trivial | exact Nat.le_of_ble_eq_true rfl | apply And.intro), rfl, fun X => le_of (ad := []) ⟨⟨⟨rfl, rfl⟩, ⟨rfl, rfl⟩, trivial⟩, ⟨rfl, rfl, rfl, rfl, rfl⟩, trivial⟩ (memOk_box rfl rfl rfl trivial)⟩
  have hc := of_decide_eq_false (hcx.symm.trans hc)
  have hR : numR t = match numL 0 t with | none => (0, 6) | some n => (n, 0) := by unfold numR; rw [if_neg hc]
  repeat' (first | refine tr_seq ?_ | refine tr_block ?_ | refine tr_skip ?_)
  first | refine reg (T := tab) tOk hnt rfl ?_ ?_ | refine regD (T := tab) tOk mixedR hnt rfl (by first | decide +kernel | kernel_rfl) ?_ ?_
  · (dsimp only [AllP]; (repeat' first | exact trivial | assumption | exact Nat.le_of_ble_eq_true rfl | apply And.intro | decide | intro _ | exact rfl))
  repeat' (first | refine tr_seq ?_ | refine tr_block ?_ | refine tr_skip ?_)
  first | refine reg (T := tab) tOk hnt rfl ?_ ?_ | refine regD (T := tab) tOk mixedR hnt rfl (by first | decide +kernel | kernel_rfl) ?_ ?_
  · (dsimp only [AllP]; (repeat' first | exact trivial | assumption | exact Nat.le_of_ble_eq_true rfl | apply And.intro | decide | intro _ | exact rfl))
  rw [runes_ascii t (fun c hc => by have := dig_rng (hdg c hc); omega)]
  repeat' (first | refine tr_seq ?_ | refine tr_block ?_ | refine tr_skip ?_)
  refine tr_loop (σ := Nat × Byt × Nat) (fun x => St.of [(2, .one (.ptr 2 0 0)), (5, .one (.e (eI (x.2.2 : Int)))), (21, .one (.ptr 21 0 0)), (900000, .one (.ptr 900000 0 0))] [(900000, ⟨0, .box (.es [eT s, eI ((i + t.length : Nat) : Int)]), 0⟩), (2, ⟨0, .box (.es (eTok tok0)), 0⟩), (21, ⟨0, .raw (.iter (strB t) x.1 (x.2.1.map rn1)), 0⟩)]) (fun x => numL x.2.2 x.2.1 = numL 0 t ∧ (∀ c ∈ x.2.1, digitB c = true) ∧ x.2.2 ≤ 9223372036854775807) (fun x => x.2.1.length) ((0, t, 0)) (le_of (ad := []) (by refine ⟨?_, ?_, ?_, ?_, trivial⟩ <;> first | exact trivial | rfl | exact ⟨rfl, rfl⟩ | exact ⟨rfl, rfl, rfl⟩ | exact ⟨rfl, rfl, rfl, rfl⟩ | exact ⟨rfl, rfl, rfl, rfl, rfl⟩ | exact congrArg (fun z : Int => E.v (.int .i64 z)) (wrap64_id (by omega) (by omega)) | exact congrArg (fun z : Int => E.v (.int .u8 z)) (by assumption) | exact congrArg (fun z : ByteArray => E.v (.string z)) (by assumption) | (refine ⟨rfl, ?_⟩; repeat' first | exact trivial | rfl | apply And.intro)) (memOk_box rfl rfl rfl (memOk_box rfl rfl rfl (memOk_raw rfl rfl rfl trivial)))) ⟨rfl, hdg, Nat.zero_le _⟩ ?_
  rintro ⟨pos, l, n⟩ ⟨h1, h2, h3⟩
  dsimp only at h1 h2 h3 ⊢
  cases l with
  | nil =>
    repeat' (first | refine tr_seq ?_ | refine reg (T := tab) tOk hnt rfl ?_ ?_ | refine regD (T := tab) tOk mixedR hnt rfl (by first | decide +kernel | kernel_rfl) ?_ ?_ | refine tr_block ?_ | refine tr_skip ?_)
    · (dsimp only [AllP]; (repeat' first | exact trivial | assumption | exact Nat.le_of_ble_eq_true rfl | apply And.intro | decide | intro _ | exact rfl))
    repeat' (first | refine tr_seq ?_ | refine tr_block ?_ | refine tr_skip ?_)
    refine tr_cond rfl (fun hc => ?_) (fun hc => ?_)
    · exact absurd (show false = true from hc) Bool.noConfusion
    refine tr_exit ?_
    rw [numL] at h1
    rw [← h1] at hR
    have hR : numR t = (n, 0) := hR
    have hK : numK t = ⟨3, [], n, 0⟩ := by unfold numK; rw [hR]; rfl
    rw [hK, hR]
    repeat' (first | refine tr_seq ?_ | refine reg (T := tab) tOk hnt rfl ?_ ?_ | refine regD (T := tab) tOk mixedR hnt rfl (by first | decide +kernel | kernel_rfl) ?_ ?_ | refine tr_block ?_ | refine tr_skip ?_)
    · (dsimp only [AllP]; (repeat' first | exact trivial | assumption | exact Nat.le_of_ble_eq_true rfl | apply And.intro | decide | intro _ | exact rfl))
    exact tr_ret ⟨.inr rfl, _, _, _, rfl, by (repeat' first | exact trivial | exact Nat.le_of_ble_eq_true rfl | apply And.intro), rfl, fun X => le_of (ad := []) ⟨⟨⟨rfl, rfl⟩, ⟨rfl, rfl⟩, trivial⟩, ⟨rfl, rfl, rfl, rfl, rfl⟩, trivial⟩ (memOk_box rfl rfl rfl trivial)⟩
  | cons c l =>
    have hd := dig_rng (h2 c List.mem_cons_self)
    repeat' (first | refine tr_seq ?_ | refine reg (T := tab) tOk hnt rfl ?_ ?_ | refine regD (T := tab) tOk mixedR hnt rfl (by first | decide +kernel | kernel_rfl) ?_ ?_ | refine tr_block ?_ | refine tr_skip ?_)
    · (dsimp only [AllP]; (repeat' first | exact trivial | assumption | exact Nat.le_of_ble_eq_true rfl | apply And.intro | decide | intro _ | exact rfl))
    repeat' (first | refine tr_seq ?_ | refine tr_block ?_ | refine tr_skip ?_)
    refine tr_cond rfl (fun hc => ?_) (fun hc => ?_)
    · have w1 : IntKind.i32.wrap ((c.toNat : Int) - 48) = (c.toNat : Int) - 48 := by
        have : ∀ k : Fin 10, IntKind.i32.wrap (((48 + k.val : Nat) : Int) - 48) = ((48 + k.val : Nat) : Int) - 48 := by decide
        have := this ⟨c.toNat - 48, by omega⟩
        rw [show 48 + (c.toNat - 48) = c.toNat by omega] at this
        exact this
      obtain ⟨d, hdd⟩ : ∃ d, c.toNat = 48 + d := ⟨c.toNat - 48, by omega⟩
      have hd9 : d ≤ 9 := by omega
      have w2 : IntKind.i64.wrap (IntKind.i32.wrap ((c.toNat : Int) - 48)) = (d : Int) := by
        rw [w1, wrap64_id (by omega) (by omega)]
        omega
      have w3 : IntKind.i64.wrap ((IntKind.i64.wrap (9223372036854775807 - (d : Int))).tdiv 10) = (((9223372036854775807 - d) / 10 : Nat) : Int) := by
        rw [wrap64_id (n := 9223372036854775807 - (d : Int)) (by omega) (by omega)]
        rw [show (9223372036854775807 - (d : Int)) = ((9223372036854775807 - d : Nat) : Int) by omega]
        rw [show ((9223372036854775807 - d : Nat) : Int).tdiv 10 = (((9223372036854775807 - d) / 10 : Nat) : Int) from rfl]
        exact wrap64_id (by omega) (by omega)
      rw [numL, show c.toNat - 48 = d by omega] at h1
      repeat' (first | refine tr_seq ?_ | refine tr_block ?_ | refine tr_skip ?_)
      first | refine reg (T := tab) tOk hnt rfl ?_ ?_ | refine regD (T := tab) tOk mixedR hnt rfl (by first | decide +kernel | kernel_rfl) ?_ ?_
      · (dsimp only [AllP]; (repeat' first | exact trivial | assumption | exact Nat.le_of_ble_eq_true rfl | apply And.intro | decide | intro _ | exact rfl))
      repeat' (first | refine tr_seq ?_ | refine tr_block ?_ | refine tr_skip ?_)
      first | refine reg (T := tab) tOk hnt rfl ?_ ?_ | refine regD (T := tab) tOk mixedR hnt rfl (by first | decide +kernel | kernel_rfl) ?_ ?_
      · (dsimp only [AllP]; (repeat' first | exact trivial | assumption | exact Nat.le_of_ble_eq_true rfl | apply And.intro | decide | intro _ | exact rfl))
      rw [w2]
      repeat' (first | refine tr_seq ?_ | refine tr_block ?_ | refine tr_skip ?_)
      first | refine reg (T := tab) tOk hnt rfl ?_ ?_ | refine regD (T := tab) tOk mixedR hnt rfl (by first | decide +kernel | kernel_rfl) ?_ ?_
      · (dsimp only [AllP]; (repeat' first | exact trivial | assumption | exact Nat.le_of_ble_eq_true rfl | apply And.intro | exact eCells_len1 _ _ ‹_› | exact eCells_isByte _ _ ‹_› | (intro hh_; have hg_ := hh_; (try simp only [condT_ff, condF_tt, notE_t, notE_f, Bool.and_eq_true, ne_eq, decide_eq_true_eq, decide_eq_false_iff_not] at hg_)) | intro _ | exact rfl | omega))
      rw [w3]
      repeat' (first | refine tr_seq ?_ | refine tr_block ?_ | refine tr_skip ?_)
      refine tr_cond rfl (fun hc => ?_) (fun hc => ?_)
      · simp only [condT_tt, condT_ff, condF_tt, condF_ff, notE_t, notE_f, decide_eq_true_eq, decide_eq_false_iff_not] at hc
        rw [if_pos (by omega)] at h1
        rw [← h1] at hR
        have hR : numR t = (0, 6) := hR
        have hK : numK t = tok0 := by unfold numK; rw [hR]; rfl
        rw [hK, hR]
        repeat' (first | refine tr_seq ?_ | refine reg (T := tab) tOk hnt rfl ?_ ?_ | refine regD (T := tab) tOk mixedR hnt rfl (by first | decide +kernel | kernel_rfl) ?_ ?_ | refine tr_block ?_ | refine tr_skip ?_)
        · (dsimp only [AllP]; (repeat' first | exact trivial | assumption | exact Nat.le_of_ble_eq_true rfl | apply And.intro | decide | intro _ | exact rfl))
        exact tr_ret ⟨.inr rfl, _, _, _, rfl, by (repeat' first | exact trivial | exact Nat.le_of_ble_eq_true rfl | apply And.intro), rfl, fun X => le_of (ad := []) ⟨⟨⟨rfl, rfl⟩, ⟨rfl, rfl⟩, trivial⟩, ⟨rfl, rfl, rfl, rfl, rfl⟩, trivial⟩ (memOk_box rfl rfl rfl trivial)⟩
      simp only [condT_tt, condT_ff, condF_tt, condF_ff, notE_t, notE_f, decide_eq_true_eq, decide_eq_false_iff_not] at hc
      rw [if_neg (by omega)] at h1
      repeat' (first | refine tr_seq ?_ | refine reg (T := tab) tOk hnt rfl ?_ ?_ | refine regD (T := tab) tOk mixedR hnt rfl (by first | decide +kernel | kernel_rfl) ?_ ?_ | refine tr_block ?_ | refine tr_skip ?_)
      · (dsimp only [AllP]; (repeat' first | exact trivial | assumption | exact Nat.le_of_ble_eq_true rfl | apply And.intro | decide | intro _ | exact rfl))
      have w4 : IntKind.i64.wrap (IntKind.i64.wrap (10 * (n : Int)) + (d : Int)) = ((10 * n + d : Nat) : Int) := by
        rw [wrap64_id (n := 10 * (n : Int)) (by omega) (by omega), wrap64_id (by omega) (by omega)]
        omega
      refine ⟨(pos + 1, l, 10 * n + d), ⟨h1, fun x hx => h2 x (List.mem_cons_of_mem _ hx), by dsimp only; omega⟩, by dsimp only; rw [List.length_cons]; omega, le_of (ad := []) ⟨⟨rfl, rfl, rfl, rfl, rfl⟩, congrArg (fun z : Int => E.v (.int .i64 z)) w4, ⟨rfl, rfl, rfl, rfl, rfl⟩, ⟨rfl, rfl, rfl, rfl, rfl⟩, trivial⟩ (memOk_box rfl rfl rfl (memOk_box rfl rfl rfl (memOk_raw rfl rfl rfl trivial)))⟩
    · exact absurd (show true = false from hc) Bool.noConfusion
end Go.Proofs.YtphaholcndhonaaDoor
namespace Go.Proofs.YtphaholcndhonaaDoor
open Go Go.RowKit Go.Proofs.YtphaholcndhonaaDoor.Ab
set_option linter.unusedSimpArgs false
set_option linter.unusedVariables false

def hxD (c : UInt8) : Option (BitVec 64) := if digitB c = true then some (BitVec.ofNat 64 (c.toNat - 48)) else if 97 ≤ c.toNat ∧ c.toNat ≤ 102 then some (BitVec.ofNat 64 (c.toNat - 87)) else none
def rHx (o : Option (BitVec 64)) : D := .tup [(false, .es [eQ (o.getD 0)]), (false, .es [.v (.bool o.isSome)])]
theorem hx_dig {c : UInt8} (h : digitB c = true) : IntKind.u64.wrap (IntKind.u8.wrap ((c.toNat : Int) - 48)) = ((BitVec.ofNat 64 (c.toNat - 48)).toNat : Int) := by
  have := dig_rng h
  have key : ∀ k : Fin 10, IntKind.u64.wrap (IntKind.u8.wrap (((48 + k.val : Nat) : Int) - 48)) = ((BitVec.ofNat 64 k.val).toNat : Int) := by decide
  have := key ⟨c.toNat - 48, by omega⟩
  rw [show 48 + (c.toNat - 48) = c.toNat by omega] at this
  exact this
theorem hx_let {c : UInt8} (h : 97 ≤ c.toNat ∧ c.toNat ≤ 102) : IntKind.u64.wrap (IntKind.u64.wrap (IntKind.u8.wrap ((c.toNat : Int) - 97)) + 10) = ((BitVec.ofNat 64 (c.toNat - 87)).toNat : Int) := by
  have key : ∀ k : Fin 6, IntKind.u64.wrap (IntKind.u64.wrap (IntKind.u8.wrap (((97 + k.val : Nat) : Int) - 97)) + 10) = ((BitVec.ofNat 64 (k.val + 10)).toNat : Int) := by decide
  have := key ⟨c.toNat - 97, by omega⟩
  rw [show 97 + (c.toNat - 97) = c.toNat by omega] at this
  rw [show c.toNat - 87 = c.toNat - 97 + 10 by omega]
  exact this
set_option maxRecDepth 10000 in
set_option maxHeartbeats 2000000 in
theorem hexDigit_fn (c : UInt8) : FnD Tryd.prog 141 [.one (.e (eB c))] (rHx (hxD c)) := by
  refine fn_intro (T := tab) tOk Tryd.func141 rfl (by kernel_rfl) (by simp [Tryd.ntmps141]) ?_
  intro X hX
  have hnt : X.nt = 21 := hX
  clear hX
  repeat' (first | refine tr_seq ?_ | refine reg (T := tab) tOk hnt rfl ?_ ?_ | refine regD (T := tab) tOk mixedR hnt rfl (by first | decide +kernel | kernel_rfl) ?_ ?_ | refine tr_block ?_ | refine tr_skip ?_)
  · (dsimp only [AllP]; (repeat' first | exact trivial | assumption | exact Nat.le_of_ble_eq_true rfl | apply And.intro | decide | intro _ | exact rfl))
  repeat' (first | refine tr_seq ?_ | refine tr_block ?_ | refine tr_skip ?_)
  refine tr_region (lex (T := tab) tOk hnt rfl ?_ (call rfl rfl rfl rfl rfl rfl rfl hnt ((digit_fn c)) (lex (T := tab) tOk hnt rfl ?_ (Lex.nil _)))) ?_
  · (dsimp only [AllP]; (repeat' first | exact trivial | assumption | exact Nat.le_of_ble_eq_true rfl | apply And.intro | decide | intro _ | exact rfl))
  · (dsimp only [AllP]; (repeat' first | exact trivial | assumption | exact Nat.le_of_ble_eq_true rfl | apply And.intro | decide | intro _ | exact rfl))
  repeat' (first | refine tr_seq ?_ | refine tr_block ?_ | refine tr_skip ?_)
  refine tr_cond rfl (fun hc => ?_) (fun hc => ?_)
  · have hc : digitB c = true := hc
    have e : hxD c = some (BitVec.ofNat 64 (c.toNat - 48)) := if_pos hc
    rw [e]
    repeat' (first | refine tr_seq ?_ | refine reg (T := tab) tOk hnt rfl ?_ ?_ | refine regD (T := tab) tOk mixedR hnt rfl (by first | decide +kernel | kernel_rfl) ?_ ?_ | refine tr_block ?_ | refine tr_skip ?_)
    · (dsimp only [AllP]; (repeat' first | exact trivial | assumption | exact Nat.le_of_ble_eq_true rfl | apply And.intro | decide | intro _ | exact rfl))
    refine tr_ret ⟨.inr rfl, _, _, rfl, trivial, ?_⟩
    exact congrArg (fun z : Int => D.tup [(false, .es [.v (.int .u64 z)]), (false, .es [.v (.bool true)])]) (hx_dig hc)
  have hn : ¬ digitB c = true := by have hc : digitB c = false := hc; rw [hc]; exact Bool.false_ne_true
  repeat' (first | refine tr_seq ?_ | refine reg (T := tab) tOk hnt rfl ?_ ?_ | refine regD (T := tab) tOk mixedR hnt rfl (by first | decide +kernel | kernel_rfl) ?_ ?_ | refine tr_block ?_ | refine tr_skip ?_)
  · (dsimp only [AllP]; (repeat' first | exact trivial | assumption | exact Nat.le_of_ble_eq_true rfl | apply And.intro | decide | intro _ | exact rfl))
  repeat' (first | refine tr_seq ?_ | refine tr_block ?_ | refine tr_skip ?_)
  refine tr_cond rfl (fun hc => ?_) (fun hc => ?_)
  · simp only [condT_tt, condT_ff, condF_tt, condF_ff, notE_t, notE_f, decide_eq_true_eq, decide_eq_false_iff_not] at hc
    have hl : 97 ≤ c.toNat ∧ c.toNat ≤ 102 := by omega
    have e : hxD c = some (BitVec.ofNat 64 (c.toNat - 87)) := by unfold hxD; rw [if_neg hn, if_pos hl]
    rw [e]
    repeat' (first | refine tr_seq ?_ | refine reg (T := tab) tOk hnt rfl ?_ ?_ | refine regD (T := tab) tOk mixedR hnt rfl (by first | decide +kernel | kernel_rfl) ?_ ?_ | refine tr_block ?_ | refine tr_skip ?_)
    · (dsimp only [AllP]; (repeat' first | exact trivial | assumption | exact Nat.le_of_ble_eq_true rfl | apply And.intro | decide | intro _ | exact rfl))
    refine tr_ret ⟨.inr rfl, _, _, rfl, trivial, ?_⟩
    exact congrArg (fun z : Int => D.tup [(false, .es [.v (.int .u64 z)]), (false, .es [.v (.bool true)])]) (hx_let hl)
  simp only [condT_tt, condT_ff, condF_tt, condF_ff, notE_t, notE_f, decide_eq_true_eq, decide_eq_false_iff_not] at hc
  have e : hxD c = none := by unfold hxD; rw [if_neg hn, if_neg (by omega)]
  rw [e]
  repeat' (first | refine tr_seq ?_ | refine reg (T := tab) tOk hnt rfl ?_ ?_ | refine regD (T := tab) tOk mixedR hnt rfl (by first | decide +kernel | kernel_rfl) ?_ ?_ | refine tr_block ?_ | refine tr_skip ?_)
  · (dsimp only [AllP]; (repeat' first | exact trivial | assumption | exact Nat.le_of_ble_eq_true rfl | apply And.intro | decide | intro _ | exact rfl))
  exact tr_ret ⟨.inr rfl, _, _, rfl, trivial, rfl⟩
/-- sixteen signs of a number: error, number, how many were passed over -/
def hxL : Nat → Byt → BitVec 64 → Int × BitVec 64 × Nat
  | 0, _, n => (0, n, 0)
  | _ + 1, [], _ => (4, 0, 0)
  | k + 1, c :: r, n => match hxD c with
    | none => (3, 0, 0)
    | some d => ((hxL k r (n <<< 4 ||| d)).1, (hxL k r (n <<< 4 ||| d)).2.1, (hxL k r (n <<< 4 ||| d)).2.2 + 1)
def hxR (r : Byt) : Int × BitVec 64 := if (hxL 16 r 0).1 ≠ 0 then ((hxL 16 r 0).1, 0) else if chk ⟨3, 0, (hxL 16 r 0).2.1, []⟩ ≠ 0 then (3, 0) else (0, (hxL 16 r 0).2.1)
def hxK (r : Byt) : Tok := if (hxR r).1 = 0 then ⟨5, [], 0, (hxR r).2⟩ else tok0
theorem hxL_len : ∀ (k : Nat) (r : Byt) (n : BitVec 64), (hxL k r n).2.2 ≤ r.length
  | 0, _, _ => Nat.zero_le _
  | _ + 1, [], _ => Nat.zero_le _
  | k + 1, c :: r, n => by
    rw [hxL]
    cases hxD c with
    | none => exact Nat.zero_le _
    | some d => exact Nat.succ_le_succ (hxL_len k r _)
set_option maxRecDepth 10000 in
set_option maxHeartbeats 2000000 in
theorem hex_fn (s : Byt) (i : Nat) (hi : i < s.length) (hs : s.length ≤ 300) : FnH Tryd.prog 91 ((gK)) (msS s i) [.one (.ptr 900000 0 0)] (rTk (hxK (s.drop (i + 1))) (hxR (s.drop (i + 1))).1) (msS s (i + 1 + (hxL 16 (s.drop (i + 1)) 0).2.2)) := by
  refine fn_introH (T := tab) tOk Tryd.func91 rfl (by kernel_rfl) (by simp [Tryd.ntmps91]) rfl rfl ?_
  intro X hX
  have hnt : X.nt = 62 := hX
  clear hX
  have ls : (strB s).size = s.length := strB_size s
  repeat' (first | refine tr_seq ?_ | refine tr_block ?_ | refine tr_skip ?_)
  first | refine reg (T := tab) tOk hnt rfl ?_ ?_ | refine regD (T := tab) tOk mixedR hnt rfl (by first | decide +kernel | kernel_rfl) ?_ ?_
  · (dsimp only [AllP]; (repeat' first | exact trivial | assumption | exact Nat.le_of_ble_eq_true rfl | apply And.intro | decide | intro _ | exact rfl))
  repeat' (first | refine tr_seq ?_ | refine tr_block ?_ | refine tr_skip ?_)
  first | refine reg (T := tab) tOk hnt rfl ?_ ?_ | refine regD (T := tab) tOk mixedR hnt rfl (by first | decide +kernel | kernel_rfl) ?_ ?_
  · simp only [sc0, sc1, strB_size]
    (dsimp only [AllP]; (repeat' first | exact trivial | assumption | exact Nat.le_of_ble_eq_true rfl | apply And.intro | exact eCells_len1 _ _ ‹_› | exact eCells_isByte _ _ ‹_› | (intro hh_; have hg_ := hh_; (try simp only [condT_ff, condF_tt, notE_t, notE_f, Bool.and_eq_true, ne_eq, decide_eq_true_eq, decide_eq_false_iff_not] at hg_)) | intro _ | exact rfl | omega))
  repeat' (first | refine tr_seq ?_ | refine tr_block ?_ | refine tr_skip ?_)
  first | refine reg (T := tab) tOk hnt rfl ?_ ?_ | refine regD (T := tab) tOk mixedR hnt rfl (by first | decide +kernel | kernel_rfl) ?_ ?_
  · (dsimp only [AllP]; (repeat' first | exact trivial | assumption | exact Nat.le_of_ble_eq_true rfl | apply And.intro | decide | intro _ | exact rfl))
  repeat' (first | refine tr_seq ?_ | refine tr_block ?_ | refine tr_skip ?_)
  first | refine reg (T := tab) tOk hnt rfl ?_ ?_ | refine regD (T := tab) tOk mixedR hnt rfl (by first | decide +kernel | kernel_rfl) ?_ ?_
  · (dsimp only [AllP]; (repeat' first | exact trivial | assumption | exact Nat.le_of_ble_eq_true rfl | apply And.intro | decide | intro _ | exact rfl))
  have hw : IntKind.i64.wrap ((i : Int) + 1) = ((i + 1 : Nat) : Int) := by rw [wrap64_id (by omega) (by omega)]; rfl
  generalize hr0 : s.drop (i + 1) = r0
  have hlen := hxL_len 16 r0 0
  have hr0l : r0.length = s.length - (i + 1) := by rw [← hr0, List.length_drop]
  repeat' (first | refine tr_seq ?_ | refine tr_block ?_ | refine tr_skip ?_)
  refine tr_loop (σ := Nat × Nat × BitVec 64) (fun x => St.of [(0, .one (.ptr 900000 0 0)), (2, .one (.ptr 2 0 0)), (4, .one (.e (eQ x.2.2))), (14, .one (.e (eI (x.1 : Int)))), (900000, .one (.ptr 900000 0 0)), ((1000000 + 0), .one (.eptr fsE)), ((1000000 + 1), .one (.eptr acE))] [(900000, ⟨0, .box (.es [eT s, eI (x.2.1 : Int)]), 0⟩), (2, ⟨0, .box (.es (eTok tok0)), 0⟩)]) (fun x => x.1 ≤ 16 ∧ x.2.1 ≤ s.length ∧ hxL 16 r0 0 = ((hxL (16 - x.1) (s.drop x.2.1) x.2.2).1, (hxL (16 - x.1) (s.drop x.2.1) x.2.2).2.1, (hxL (16 - x.1) (s.drop x.2.1) x.2.2).2.2 + (x.2.1 - (i + 1))) ∧ i + 1 ≤ x.2.1) (fun x => 16 - x.1) ((0, i + 1, 0)) (le_of (ad := []) (by refine ⟨?_, ?_, ?_, ?_, ?_, ?_, ?_, trivial⟩ <;> first | exact trivial | rfl | exact ⟨rfl, rfl⟩ | exact ⟨rfl, rfl, rfl⟩ | exact ⟨rfl, rfl, rfl, rfl⟩ | exact ⟨rfl, rfl, rfl, rfl, rfl⟩ | exact congrArg (fun z : Int => E.v (.int .i64 z)) (wrap64_id (by omega) (by omega)) | exact congrArg (fun z : Int => E.v (.int .u8 z)) (by assumption) | exact congrArg (fun z : ByteArray => E.v (.string z)) (by assumption) | (refine ⟨rfl, ?_⟩; repeat' first | exact trivial | rfl | apply And.intro)) (memOk_box rfl rfl (congrArg (fun z : Int => [eT s, eI z]) hw) (memOk_box rfl rfl rfl trivial))) ⟨Nat.zero_le _, hi, by rw [hr0]; dsimp only; rw [Nat.sub_self]; rfl, Nat.le_refl _⟩ ?_
  rintro ⟨k, j, n⟩ ⟨k16, jl, hJ, ij⟩
  dsimp only at k16 jl hJ ij ⊢
  repeat' (first | refine tr_seq ?_ | refine reg (T := tab) tOk hnt rfl ?_ ?_ | refine regD (T := tab) tOk mixedR hnt rfl (by first | decide +kernel | kernel_rfl) ?_ ?_ | refine tr_block ?_ | refine tr_skip ?_)
  · (dsimp only [AllP]; (repeat' first | exact trivial | assumption | exact Nat.le_of_ble_eq_true rfl | apply And.intro | decide | intro _ | exact rfl))
  repeat' (first | refine tr_seq ?_ | refine tr_block ?_ | refine tr_skip ?_)
  refine tr_cond rfl (fun hc => ?_) (fun hc => ?_)
  · simp only [condT_tt, condT_ff, condF_tt, condF_ff, notE_t, notE_f, decide_eq_true_eq, decide_eq_false_iff_not] at hc
    have hk : 16 - k = (16 - (k + 1)) + 1 := by omega
    rw [hk] at hJ
    repeat' (first | refine tr_seq ?_ | refine tr_block ?_ | refine tr_skip ?_)
    first | refine reg (T := tab) tOk hnt rfl ?_ ?_ | refine regD (T := tab) tOk mixedR hnt rfl (by first | decide +kernel | kernel_rfl) ?_ ?_
    · simp only [sc0, sc1, strB_size]
      (dsimp only [AllP]; (repeat' first | exact trivial | assumption | exact Nat.le_of_ble_eq_true rfl | apply And.intro | exact eCells_len1 _ _ ‹_› | exact eCells_isByte _ _ ‹_› | (intro hh_; have hg_ := hh_; (try simp only [condT_ff, condF_tt, notE_t, notE_f, Bool.and_eq_true, ne_eq, decide_eq_true_eq, decide_eq_false_iff_not] at hg_)) | intro _ | exact rfl | omega))
    repeat' (first | refine tr_seq ?_ | refine tr_block ?_ | refine tr_skip ?_)
    refine tr_cond rfl (fun hc => ?_) (fun hc => ?_)
    · have hc : (((strB s).size : Nat) : Int) ≤ (j : Int) := of_decide_eq_true hc
      rw [List.drop_eq_nil_of_le (by omega), hxL] at hJ
      have hR : hxR r0 = (4, 0) := by unfold hxR; rw [hJ]; rfl
      have hK : hxK r0 = tok0 := by unfold hxK; rw [hR]; rfl
      rw [hK, hR, hJ, show i + 1 + (0 + (j - (i + 1))) = j by omega]
      repeat' (first | refine tr_seq ?_ | refine reg (T := tab) tOk hnt rfl ?_ ?_ | refine regD (T := tab) tOk mixedR hnt rfl (by first | decide +kernel | kernel_rfl) ?_ ?_ | refine tr_block ?_ | refine tr_skip ?_)
      · (dsimp only [AllP]; (repeat' first | exact trivial | assumption | exact Nat.le_of_ble_eq_true rfl | apply And.intro | decide | intro _ | exact rfl))
      exact tr_ret ⟨.inr rfl, _, _, _, rfl, by (repeat' first | exact trivial | exact Nat.le_of_ble_eq_true rfl | apply And.intro), rfl, fun X => le_of (ad := []) ⟨⟨⟨rfl, rfl⟩, ⟨rfl, rfl⟩, trivial⟩, ⟨rfl, rfl, rfl, rfl, rfl⟩, trivial⟩ (memOk_box rfl rfl rfl trivial)⟩
    have hc : ¬ (((strB s).size : Nat) : Int) ≤ (j : Int) := of_decide_eq_false hc
    have hlt : j < s.length := by omega
    rw [drop_getD (d := 0) hlt, hxL] at hJ
    have hh : FnD Tryd.prog 141 [.one (.e (eB ((strB s).data.toList.getD (Int.toNat (j : Int)) 0)))] (rHx (hxD (s.getD j 0))) := by
      rw [strB_list, Int.toNat_natCast]
      exact hexDigit_fn _
    generalize hxD (s.getD j 0) = o at *
    unfold rHx at hh
    repeat' (first | refine tr_seq ?_ | refine tr_block ?_ | refine tr_skip ?_)
    refine tr_draw (T := tab) tOk hnt mixedR (lexD (T := tab) rfl ?_ (callD rfl rfl rfl rfl rfl rfl rfl rfl (hh) (lexD (T := tab) rfl ?_ (.nil _)))) (by first | decide +kernel | kernel_rfl) ?_
    · first | (simp only [sc0, sc1, strB_size]; (dsimp only [AllP]; (repeat' first | exact trivial | assumption | exact Nat.le_of_ble_eq_true rfl | apply And.intro | exact eCells_len1 _ _ ‹_› | exact eCells_isByte _ _ ‹_› | (intro hh_; have hg_ := hh_; (try simp only [condT_ff, condF_tt, notE_t, notE_f, Bool.and_eq_true, ne_eq, decide_eq_true_eq, decide_eq_false_iff_not] at hg_)) | intro _ | exact rfl | omega)); done) | ((dsimp only [AllP]; (repeat' first | exact trivial | assumption | exact Nat.le_of_ble_eq_true rfl | apply And.intro | decide | intro _ | exact rfl)); done)
    · first | (simp only [sc0, sc1, strB_size]; (dsimp only [AllP]; (repeat' first | exact trivial | assumption | exact Nat.le_of_ble_eq_true rfl | apply And.intro | exact eCells_len1 _ _ ‹_› | exact eCells_isByte _ _ ‹_› | (intro hh_; have hg_ := hh_; (try simp only [condT_ff, condF_tt, notE_t, notE_f, Bool.and_eq_true, ne_eq, decide_eq_true_eq, decide_eq_false_iff_not] at hg_)) | intro _ | exact rfl | omega)); done) | ((dsimp only [AllP]; (repeat' first | exact trivial | assumption | exact Nat.le_of_ble_eq_true rfl | apply And.intro | decide | intro _ | exact rfl)); done)
    repeat' (first | refine tr_seq ?_ | refine reg (T := tab) tOk hnt rfl ?_ ?_ | refine regD (T := tab) tOk mixedR hnt rfl (by first | decide +kernel | kernel_rfl) ?_ ?_ | refine tr_block ?_ | refine tr_skip ?_)
    · (dsimp only [AllP]; (repeat' first | exact trivial | assumption | exact Nat.le_of_ble_eq_true rfl | apply And.intro | decide | intro _ | exact rfl))
    cases o with
    | none =>
      repeat' (first | refine tr_seq ?_ | refine tr_block ?_ | refine tr_skip ?_)
      refine tr_cond rfl (fun hc => ?_) (fun hc => ?_)
      · have hJ : hxL 16 r0 0 = (3, 0, 0 + (j - (i + 1))) := hJ
        have hR : hxR r0 = (3, 0) := by unfold hxR; rw [hJ]; rfl
        have hK : hxK r0 = tok0 := by unfold hxK; rw [hR]; rfl
        rw [hK, hR, hJ, show i + 1 + (0 + (j - (i + 1))) = j by omega]
        repeat' (first | refine tr_seq ?_ | refine reg (T := tab) tOk hnt rfl ?_ ?_ | refine regD (T := tab) tOk mixedR hnt rfl (by first | decide +kernel | kernel_rfl) ?_ ?_ | refine tr_block ?_ | refine tr_skip ?_)
        · (dsimp only [AllP]; (repeat' first | exact trivial | assumption | exact Nat.le_of_ble_eq_true rfl | apply And.intro | decide | intro _ | exact rfl))
        exact tr_ret ⟨.inr rfl, _, _, _, rfl, by (repeat' first | exact trivial | exact Nat.le_of_ble_eq_true rfl | apply And.intro), rfl, fun X => le_of (ad := []) ⟨⟨⟨rfl, rfl⟩, ⟨rfl, rfl⟩, trivial⟩, ⟨rfl, rfl, rfl, rfl, rfl⟩, trivial⟩ (memOk_box rfl rfl rfl trivial)⟩
      · exact absurd (show true = false from hc) Bool.noConfusion
    | some d =>
      repeat' (first | refine tr_seq ?_ | refine tr_block ?_ | refine tr_skip ?_)
      refine tr_cond rfl (fun hc => ?_) (fun hc => ?_)
      · exact absurd (show false = true from hc) Bool.noConfusion
      have hJ : hxL 16 r0 0 = ((hxL (16 - (k + 1)) (s.drop (j + 1)) (n <<< 4 ||| d)).1, (hxL (16 - (k + 1)) (s.drop (j + 1)) (n <<< 4 ||| d)).2.1, (hxL (16 - (k + 1)) (s.drop (j + 1)) (n <<< 4 ||| d)).2.2 + 1 + (j - (i + 1))) := hJ
      have hwj : IntKind.i64.wrap ((j : Int) + 1) = ((j + 1 : Nat) : Int) := by rw [wrap64_id (by omega) (by omega)]; rfl
      repeat' (first | refine tr_seq ?_ | refine tr_block ?_ | refine tr_skip ?_)
      first | refine reg (T := tab) tOk hnt rfl ?_ ?_ | refine regD (T := tab) tOk mixedR hnt rfl (by first | decide +kernel | kernel_rfl) ?_ ?_
      · simp only [sc0, sc1, strB_size]
        (dsimp only [AllP]; (repeat' first | exact trivial | assumption | exact Nat.le_of_ble_eq_true rfl | apply And.intro | exact eCells_len1 _ _ ‹_› | exact eCells_isByte _ _ ‹_› | (intro hh_; have hg_ := hh_; (try simp only [condT_ff, condF_tt, notE_t, notE_f, Bool.and_eq_true, ne_eq, decide_eq_true_eq, decide_eq_false_iff_not] at hg_)) | intro _ | exact rfl | omega))
      repeat' (first | refine tr_seq ?_ | refine tr_block ?_ | refine tr_skip ?_)
      first | refine reg (T := tab) tOk hnt rfl ?_ ?_ | refine regD (T := tab) tOk mixedR hnt rfl (by first | decide +kernel | kernel_rfl) ?_ ?_
      · (dsimp only [AllP]; (repeat' first | exact trivial | assumption | exact Nat.le_of_ble_eq_true rfl | apply And.intro | exact eCells_len1 _ _ ‹_› | exact eCells_isByte _ _ ‹_› | (intro hh_; have hg_ := hh_; (try simp only [condT_ff, condF_tt, notE_t, notE_f, Bool.and_eq_true, ne_eq, decide_eq_true_eq, decide_eq_false_iff_not] at hg_)) | intro _ | exact rfl | omega))
      repeat' (first | refine tr_seq ?_ | refine tr_block ?_ | refine tr_skip ?_)
      first | refine reg (T := tab) tOk hnt rfl ?_ ?_ | refine regD (T := tab) tOk mixedR hnt rfl (by first | decide +kernel | kernel_rfl) ?_ ?_
      · (dsimp only [AllP]; (repeat' first | exact trivial | assumption | exact Nat.le_of_ble_eq_true rfl | apply And.intro | exact eCells_len1 _ _ ‹_› | exact eCells_isByte _ _ ‹_› | (intro hh_; have hg_ := hh_; (try simp only [condT_ff, condF_tt, notE_t, notE_f, Bool.and_eq_true, ne_eq, decide_eq_true_eq, decide_eq_false_iff_not] at hg_)) | intro _ | exact rfl | omega))
      repeat' (first | refine tr_seq ?_ | refine tr_block ?_ | refine tr_skip ?_)
      refine ⟨(k + 1, j + 1, n <<< 4 ||| d), ⟨by dsimp only; omega, by dsimp only; omega, ?_, by dsimp only; omega⟩, by dsimp only; omega, le_of (ad := []) ⟨⟨rfl, rfl, rfl, rfl, rfl⟩, ⟨rfl, rfl, rfl, rfl, rfl⟩, ?_, congrArg (fun z : Int => E.v (.int .i64 z)) (wrap64_id (n := (k : Int) + 1) (by omega) (by omega)), ⟨rfl, rfl, rfl, rfl, rfl⟩, rfl, rfl, trivial⟩ (memOk_box rfl rfl (congrArg (fun z : Int => [eT s, eI z]) hwj) (memOk_box rfl rfl rfl trivial))⟩
      · dsimp only
        rw [hJ]
        congr 2
        omega
      · refine congrArg (fun z : Int => E.v (.int .u64 z)) ?_
        show IntKind.u64.wrap (((BitVec.ofInt IntKind.u64.bits (IntKind.u64.wrap ((n.toNat : Int) * 2 ^ 4)) ||| BitVec.ofInt IntKind.u64.bits (d.toNat : Int)).toNat : Nat) : Int) = ((n <<< 4 ||| d).toNat : Int)
        rw [q_shl, q_or]
  simp only [condT_tt, condT_ff, condF_tt, condF_ff, notE_t, notE_f, decide_eq_true_eq, decide_eq_false_iff_not] at hc
  refine tr_exit ?_
  have hk : k = 16 := by omega
  subst hk
  rw [Nat.sub_self, hxL] at hJ
  have hJ : hxL 16 r0 0 = (0, n, 0 + (j - (i + 1))) := hJ
  have hck := check_fn ⟨3, 0, n, []⟩
  have hA : i + 1 + (hxL 16 r0 0).2.2 = j := by rw [hJ]; show i + 1 + (0 + (j - (i + 1))) = j; omega
  rw [hA]
  have hR : hxR r0 = if chk ⟨3, 0, n, []⟩ ≠ 0 then (3, 0) else (0, n) := by unfold hxR; rw [hJ]; rfl
  generalize chk ⟨3, 0, n, []⟩ = y at *
  repeat' (first | refine tr_seq ?_ | refine tr_block ?_ | refine tr_skip ?_)
  refine tr_region (lex (T := tab) tOk hnt rfl ?_ (callV rfl rfl rfl rfl rfl rfl rfl hnt rfl (hck) (lex (T := tab) tOk hnt rfl ?_ (Lex.nil _)))) ?_
  · (dsimp only [AllP]; (repeat' first | exact trivial | assumption | exact Nat.le_of_ble_eq_true rfl | apply And.intro | decide | intro _ | exact rfl))
  · (dsimp only [AllP]; (repeat' first | exact trivial | assumption | exact Nat.le_of_ble_eq_true rfl | apply And.intro | decide | intro _ | exact rfl))
  repeat' (first | refine tr_seq ?_ | refine tr_block ?_ | refine tr_skip ?_)
  refine tr_cond rfl (fun hc => ?_) (fun hc => ?_)
  · simp only [condT_tt, condT_ff, condF_tt, condF_ff, notE_t, notE_f, decide_eq_true_eq, decide_eq_false_iff_not] at hc
    rw [if_pos hc] at hR
    have hK : hxK r0 = tok0 := by unfold hxK; rw [hR]; rfl
    rw [hK, hR]
    repeat' (first | refine tr_seq ?_ | refine reg (T := tab) tOk hnt rfl ?_ ?_ | refine regD (T := tab) tOk mixedR hnt rfl (by first | decide +kernel | kernel_rfl) ?_ ?_ | refine tr_block ?_ | refine tr_skip ?_)
    · (dsimp only [AllP]; (repeat' first | exact trivial | assumption | exact Nat.le_of_ble_eq_true rfl | apply And.intro | decide | intro _ | exact rfl))
    exact tr_ret ⟨.inr rfl, _, _, _, rfl, by (repeat' first | exact trivial | exact Nat.le_of_ble_eq_true rfl | apply And.intro), rfl, fun X => le_of (ad := []) ⟨⟨⟨rfl, rfl⟩, ⟨rfl, rfl⟩, trivial⟩, ⟨rfl, rfl, rfl, rfl, rfl⟩, trivial⟩ (memOk_box rfl rfl rfl trivial)⟩
  simp only [condT_tt, condT_ff, condF_tt, condF_ff, notE_t, notE_f, decide_eq_true_eq, decide_eq_false_iff_not] at hc
  rw [if_neg (not_not_intro hc)] at hR
  have hK : hxK r0 = ⟨5, [], 0, n⟩ := by unfold hxK; rw [hR]; rfl
  rw [hK, hR]
  repeat' (first | refine tr_seq ?_ | refine reg (T := tab) tOk hnt rfl ?_ ?_ | refine regD (T := tab) tOk mixedR hnt rfl (by first | decide +kernel | kernel_rfl) ?_ ?_ | refine tr_block ?_ | refine tr_skip ?_)
  · (dsimp only [AllP]; (repeat' first | exact trivial | assumption | exact Nat.le_of_ble_eq_true rfl | apply And.intro | decide | intro _ | exact rfl))
  exact tr_ret ⟨.inr rfl, _, _, _, rfl, by (repeat' first | exact trivial | exact Nat.le_of_ble_eq_true rfl | apply And.intro), rfl, fun X => le_of (ad := []) ⟨⟨⟨rfl, rfl⟩, ⟨rfl, rfl⟩, trivial⟩, ⟨rfl, rfl, rfl, rfl, rfl⟩, trivial⟩ (memOk_box rfl rfl rfl trivial)⟩
end Go.Proofs.YtphaholcndhonaaDoor
namespace Go.Proofs.YtphaholcndhonaaDoor
open Go Go.RowKit Go.Proofs.YtphaholcndhonaaDoor.Ab
set_option linter.unusedSimpArgs false
set_option linter.unusedVariables false

/-- how many bytes the sign has that a text begins with; 0: none -/
def sgN (r : Byt) : Nat := if 2 ≤ r.length ∧ isSg (r.take 2) = true then 2 else if 1 ≤ r.length ∧ isSg (r.take 1) = true then 1 else 0
def sgK (r : Byt) : Tok := if sgN r = 0 then tok0 else ⟨6, r.take (sgN r), 0, 0⟩
def sgE (r : Byt) : Int := if sgN r = 0 then 3 else 0
theorem sgN_of {r : Byt} {n : Nat} (h : 1 ≤ n) (h2 : n ≤ 2) (hn : ∀ m, n < m → m ≤ 2 → ¬ (m ≤ r.length ∧ isSg (r.take m) = true)) (hc : n ≤ r.length ∧ isSg (r.take n) = true) : sgN r = n := by
  unfold sgN
  match n, h, h2 with
  | 1, _, _ => rw [if_neg (hn 2 (by decide) (by decide)), if_pos hc]
  | 2, _, _ => rw [if_pos hc]
set_option maxRecDepth 10000 in
set_option maxHeartbeats 2000000 in
theorem signS_fn (s : Byt) (i : Nat) (hi : i ≤ s.length) (hs : s.length ≤ 300) : FnH Tryd.prog 92 [] (msS s i) [.one (.ptr 900000 0 0)] (rTk (sgK (s.drop i)) (sgE (s.drop i))) (msS s (i + sgN (s.drop i))) := by
  refine fn_introH (T := tab) tOk Tryd.func92 rfl (by kernel_rfl) (by simp [Tryd.ntmps92]) rfl rfl ?_
  intro X hX
  have hnt : X.nt = 64 := hX
  clear hX
  have ls : (strB s).size = s.length := strB_size s
  repeat' (first | refine tr_seq ?_ | refine tr_block ?_ | refine tr_skip ?_)
  first | refine reg (T := tab) tOk hnt rfl ?_ ?_ | refine regD (T := tab) tOk mixedR hnt rfl (by first | decide +kernel | kernel_rfl) ?_ ?_
  · (dsimp only [AllP]; (repeat' first | exact trivial | assumption | exact Nat.le_of_ble_eq_true rfl | apply And.intro | decide | intro _ | exact rfl))
  repeat' (first | refine tr_seq ?_ | refine tr_block ?_ | refine tr_skip ?_)
  first | refine reg (T := tab) tOk hnt rfl ?_ ?_ | refine regD (T := tab) tOk mixedR hnt rfl (by first | decide +kernel | kernel_rfl) ?_ ?_
  · (dsimp only [AllP]; (repeat' first | exact trivial | assumption | exact Nat.le_of_ble_eq_true rfl | apply And.intro | decide | intro _ | exact rfl))
  generalize hr : s.drop i = r
  have hrl : r.length = s.length - i := by rw [← hr, List.length_drop]
  repeat' (first | refine tr_seq ?_ | refine tr_block ?_ | refine tr_skip ?_)
  refine tr_loop (σ := Nat) (fun n => St.of [(0, .one (.ptr 900000 0 0)), (2, .one (.ptr 2 0 0)), (4, .one (.e (eI (n : Int)))), (900000, .one (.ptr 900000 0 0))] [(900000, ⟨0, .box (.es [eT s, eI (i : Int)]), 0⟩), (2, ⟨0, .box (.es (eTok tok0)), 0⟩)]) (fun n => n ≤ 2 ∧ ∀ m, n < m → m ≤ 2 → ¬ (m ≤ r.length ∧ isSg (r.take m) = true)) (fun n => n) (2) (le_of (ad := []) (by refine ⟨?_, ?_, ?_, ?_, trivial⟩ <;> first | exact trivial | rfl | exact ⟨rfl, rfl⟩ | exact ⟨rfl, rfl, rfl⟩ | exact ⟨rfl, rfl, rfl, rfl⟩ | exact ⟨rfl, rfl, rfl, rfl, rfl⟩ | exact congrArg (fun z : Int => E.v (.int .i64 z)) (wrap64_id (by omega) (by omega)) | exact congrArg (fun z : Int => E.v (.int .u8 z)) (by assumption) | exact congrArg (fun z : ByteArray => E.v (.string z)) (by assumption) | (refine ⟨rfl, ?_⟩; repeat' first | exact trivial | rfl | apply And.intro)) (memOk_box rfl rfl rfl (memOk_box rfl rfl rfl trivial))) ⟨Nat.le_refl _, fun m h1 h2 => by omega⟩ ?_
  rintro n ⟨n2, hn⟩
  repeat' (first | refine tr_seq ?_ | refine reg (T := tab) tOk hnt rfl ?_ ?_ | refine regD (T := tab) tOk mixedR hnt rfl (by first | decide +kernel | kernel_rfl) ?_ ?_ | refine tr_block ?_ | refine tr_skip ?_)
  · (dsimp only [AllP]; (repeat' first | exact trivial | assumption | exact Nat.le_of_ble_eq_true rfl | apply And.intro | decide | intro _ | exact rfl))
  repeat' (first | refine tr_seq ?_ | refine tr_block ?_ | refine tr_skip ?_)
  refine tr_cond rfl (fun hc => ?_) (fun hc => ?_)
  · simp only [condT_tt, condT_ff, condF_tt, condF_ff, notE_t, notE_f, decide_eq_true_eq, decide_eq_false_iff_not] at hc
    have hw : IntKind.i64.wrap ((i : Int) + (n : Int)) = ((i + n : Nat) : Int) := by rw [wrap64_id (by omega) (by omega)]; rfl
    have hsg : FnD Tryd.prog 142 [.one (.e (.v (.string ((strB s).extract (Int.toNat (i : Int)) (Int.toNat (IntKind.i64.wrap ((i : Int) + (n : Int))))))))] (.v (.bool (isSg (r.take n)))) := by
      rw [hw, strB_extract, Int.toNat_natCast, Int.toNat_natCast, List.drop_take, Nat.add_sub_cancel_left, hr]
      exact sign0_fn _
    repeat' (first | refine tr_seq ?_ | refine tr_block ?_ | refine tr_skip ?_)
    refine tr_draw (T := tab) tOk hnt mixedR (lexD (T := tab) rfl ?_ (callGD rfl rfl rfl rfl rfl rfl rfl rfl (fun hq => ?_) (fun hq => hsg) (lexD (T := tab) rfl ?_ (.nil _)))) (by first | decide +kernel | kernel_rfl) ?_
    · simp only [sc0, sc1, strB_size]
      rw [hw]
      (dsimp only [AllP]; (repeat' first | exact trivial | assumption | exact Nat.le_of_ble_eq_true rfl | apply And.intro | exact eCells_len1 _ _ ‹_› | exact eCells_isByte _ _ ‹_› | (intro hh_; have hg_ := hh_; (try simp only [condT_ff, condF_tt, notE_t, notE_f, Bool.and_eq_true, ne_eq, decide_eq_true_eq, decide_eq_false_iff_not] at hg_)) | intro _ | exact rfl | omega))
    · first | (simp only [sc0, sc1, strB_size]; rw [hw]; (dsimp only [AllP]; (repeat' first | exact trivial | assumption | exact Nat.le_of_ble_eq_true rfl | apply And.intro | exact eCells_len1 _ _ ‹_› | exact eCells_isByte _ _ ‹_› | (intro hh_; have hg_ := hh_; (try simp only [condT_ff, condF_tt, notE_t, notE_f, Bool.and_eq_true, ne_eq, decide_eq_true_eq, decide_eq_false_iff_not] at hg_)) | intro _ | exact rfl | omega)); done) | ((dsimp only [AllP]; (repeat' first | exact trivial | assumption | exact Nat.le_of_ble_eq_true rfl | apply And.intro | decide | intro _ | exact rfl)); done)
    · first | (simp only [sc0, sc1, strB_size]; rw [hw]; (dsimp only [AllP]; (repeat' first | exact trivial | assumption | exact Nat.le_of_ble_eq_true rfl | apply And.intro | exact eCells_len1 _ _ ‹_› | exact eCells_isByte _ _ ‹_› | (intro hh_; have hg_ := hh_; (try simp only [condT_ff, condF_tt, notE_t, notE_f, Bool.and_eq_true, ne_eq, decide_eq_true_eq, decide_eq_false_iff_not] at hg_)) | intro _ | exact rfl | omega)); done) | ((dsimp only [AllP]; (repeat' first | exact trivial | assumption | exact Nat.le_of_ble_eq_true rfl | apply And.intro | decide | intro _ | exact rfl)); done)
    have hcx : (bif decide (IntKind.i64.wrap (([eT s, eI (i : Int)].getD (0 + 1) E.dflt).int + (n : Int)) ≤ ((([eT s, eI (i : Int)].getD (0 + 0) E.dflt).str.size : Nat) : Int)) then isSg (r.take n) else false) = decide (n ≤ r.length ∧ isSg (r.take n) = true) := by
      rw [sc0, sc1, hw, strB_size]
      by_cases h : n ≤ r.length
      · rw [decide_eq_true (by omega : ((i + n : Nat) : Int) ≤ (s.length : Int)), cond_true]
        cases isSg (r.take n) <;> simp [h]
      · rw [decide_eq_false (by omega : ¬ ((i + n : Nat) : Int) ≤ (s.length : Int)), cond_false, decide_eq_false (fun e => h e.1)]
    repeat' (first | refine tr_seq ?_ | refine tr_block ?_ | refine tr_skip ?_)
    refine tr_cond rfl (fun hc => ?_) (fun hc => ?_)
    · have hc := of_decide_eq_true (hcx.symm.trans hc)
      have hN := sgN_of (by omega) n2 hn hc
      have hK : sgK r = ⟨6, r.take n, 0, 0⟩ := by unfold sgK; rw [if_neg (by omega), hN]
      have hE : sgE r = 0 := by unfold sgE; rw [if_neg (by omega)]
      have hw2 : IntKind.i64.wrap (((i + n : Nat) : Int) - (n : Int)) = (i : Int) := by rw [wrap64_id (by omega) (by omega)]; omega
      have hex : (strB s).extract (Int.toNat (i : Int)) (Int.toNat ((i + n : Nat) : Int)) = strB (r.take n) := by
        rw [strB_extract, Int.toNat_natCast, Int.toNat_natCast, List.drop_take, Nat.add_sub_cancel_left, hr]
      rw [hK, hE, hN]
      repeat' (first | refine tr_seq ?_ | refine tr_block ?_ | refine tr_skip ?_)
      first | refine reg (T := tab) tOk hnt rfl ?_ ?_ | refine regD (T := tab) tOk mixedR hnt rfl (by first | decide +kernel | kernel_rfl) ?_ ?_
      · simp only [sc0, sc1, strB_size]
        (dsimp only [AllP]; (repeat' first | exact trivial | assumption | exact Nat.le_of_ble_eq_true rfl | apply And.intro | exact eCells_len1 _ _ ‹_› | exact eCells_isByte _ _ ‹_› | (intro hh_; have hg_ := hh_; (try simp only [condT_ff, condF_tt, notE_t, notE_f, Bool.and_eq_true, ne_eq, decide_eq_true_eq, decide_eq_false_iff_not] at hg_)) | intro _ | exact rfl | omega))
      refine tr_le (s' := St.of [(0, .one (.ptr 900000 0 0)), (2, .one (.ptr 2 0 0)), (4, .one (.e (eI (n : Int)))), (900000, .one (.ptr 900000 0 0))] [(900000, ⟨0, .box (.es [eT s, eI ((i + n : Nat) : Int)]), 0⟩), (2, ⟨0, .box (.es (eTok tok0)), 0⟩)]) (le_of (ad := []) (by refine ⟨?_, ?_, ?_, ?_, trivial⟩ <;> first | exact trivial | rfl | exact ⟨rfl, rfl⟩ | exact ⟨rfl, rfl, rfl⟩ | exact ⟨rfl, rfl, rfl, rfl⟩ | exact ⟨rfl, rfl, rfl, rfl, rfl⟩ | exact congrArg (fun z : Int => E.v (.int .i64 z)) (wrap64_id (by omega) (by omega)) | exact congrArg (fun z : Int => E.v (.int .u8 z)) (by assumption) | exact congrArg (fun z : ByteArray => E.v (.string z)) (by assumption) | (refine ⟨rfl, ?_⟩; repeat' first | exact trivial | rfl | apply And.intro)) (memOk_box rfl rfl (congrArg (fun z : Int => [eT s, eI z]) hw) (memOk_box rfl rfl rfl trivial))) ?_
      repeat' (first | refine tr_seq ?_ | refine tr_block ?_ | refine tr_skip ?_)
      first | refine reg (T := tab) tOk hnt rfl ?_ ?_ | refine regD (T := tab) tOk mixedR hnt rfl (by first | decide +kernel | kernel_rfl) ?_ ?_
      · simp only [sc0, sc1, strB_size]
        rw [hw2]
        (dsimp only [AllP]; (repeat' first | exact trivial | assumption | exact Nat.le_of_ble_eq_true rfl | apply And.intro | exact eCells_len1 _ _ ‹_› | exact eCells_isByte _ _ ‹_› | (intro hh_; have hg_ := hh_; (try simp only [condT_ff, condF_tt, notE_t, notE_f, Bool.and_eq_true, ne_eq, decide_eq_true_eq, decide_eq_false_iff_not] at hg_)) | intro _ | exact rfl | omega))
      exact tr_ret ⟨.inr rfl, _, _, _, rfl, by (repeat' first | exact trivial | exact Nat.le_of_ble_eq_true rfl | apply And.intro), rfl, fun X => le_of (ad := []) ⟨⟨⟨rfl, (congrArg (fun z : ByteArray => [eI 6, E.v (.string z), eI 0, eQ 0]) (show (strB s).extract (Int.toNat (IntKind.i64.wrap (((i + n : Nat) : Int) - (n : Int)))) (Int.toNat ((i + n : Nat) : Int)) = strB (r.take n) by rw [hw2]; exact hex))⟩, ⟨rfl, rfl⟩, trivial⟩, ⟨rfl, rfl, rfl, rfl, rfl⟩, trivial⟩ (memOk_box rfl rfl rfl trivial)⟩
    have hc := of_decide_eq_false (hcx.symm.trans hc)
    repeat' (first | refine tr_seq ?_ | refine reg (T := tab) tOk hnt rfl ?_ ?_ | refine regD (T := tab) tOk mixedR hnt rfl (by first | decide +kernel | kernel_rfl) ?_ ?_ | refine tr_block ?_ | refine tr_skip ?_)
    · (dsimp only [AllP]; (repeat' first | exact trivial | assumption | exact Nat.le_of_ble_eq_true rfl | apply And.intro | decide | intro _ | exact rfl))
    have hw3 : IntKind.i64.wrap ((n : Int) - 1) = ((n - 1 : Nat) : Int) := by rw [wrap64_id (by omega) (by omega)]; omega
    refine ⟨n - 1, ⟨by omega, fun m h1 h2 => by rcases Nat.lt_or_ge n m with h3 | h3; exact hn m h3 h2; rw [show m = n by omega]; exact hc⟩, by omega, le_of (ad := []) ⟨⟨rfl, rfl, rfl, rfl, rfl⟩, ⟨rfl, rfl, rfl, rfl, rfl⟩, congrArg (fun z : Int => E.v (.int .i64 z)) hw3, ⟨rfl, rfl, rfl, rfl, rfl⟩, trivial⟩ (memOk_box rfl rfl rfl (memOk_box rfl rfl rfl trivial))⟩
  simp only [condT_tt, condT_ff, condF_tt, condF_ff, notE_t, notE_f, decide_eq_true_eq, decide_eq_false_iff_not] at hc
  refine tr_exit ?_
  have hn0 : sgN r = 0 := by
    unfold sgN
    rw [if_neg (hn 2 (by omega) (by decide)), if_neg (hn 1 (by omega) (by decide))]
  have hK : sgK r = tok0 := by unfold sgK; rw [if_pos hn0]
  have hE : sgE r = 3 := by unfold sgE; rw [if_pos hn0]
  rw [hK, hE, hn0]
  repeat' (first | refine tr_seq ?_ | refine reg (T := tab) tOk hnt rfl ?_ ?_ | refine regD (T := tab) tOk mixedR hnt rfl (by first | decide +kernel | kernel_rfl) ?_ ?_ | refine tr_block ?_ | refine tr_skip ?_)
  · (dsimp only [AllP]; (repeat' first | exact trivial | assumption | exact Nat.le_of_ble_eq_true rfl | apply And.intro | decide | intro _ | exact rfl))
  exact tr_ret ⟨.inr rfl, _, _, _, rfl, by (repeat' first | exact trivial | exact Nat.le_of_ble_eq_true rfl | apply And.intro), rfl, fun X => le_of (ad := []) ⟨⟨⟨rfl, rfl⟩, ⟨rfl, rfl⟩, trivial⟩, ⟨rfl, rfl, rfl, rfl, rfl⟩, trivial⟩ (memOk_box rfl rfl rfl trivial)⟩
end Go.Proofs.YtphaholcndhonaaDoor
namespace Go.Proofs.YtphaholcndhonaaDoor
open Go Go.RowKit Go.Proofs.YtphaholcndhonaaDoor.Ab
set_option linter.unusedSimpArgs false
set_option linter.unusedVariables false

/-- the text of a quote, behind its first sign, and how many bytes were read -/
def qsL : Byt → Option (Byt × Nat)
  | [] => none
  | [c] => if c.toNat = 39 then some ([], 1) else none
  | c :: d :: r => if c.toNat = 39 then (if d.toNat = 39 then (qsL r).map fun z => (c :: z.1, z.2 + 2) else some ([], 1)) else (qsL (d :: r)).map fun z => (c :: z.1, z.2 + 1)
theorem qsL_len : ∀ (r : Byt) (z : Byt × Nat), qsL r = some z → z.2 ≤ r.length ∧ z.1.length < z.2
  | [], z, h => by cases h
  | [c], z, h => by
    rw [qsL] at h
    split at h
    · cases h; exact ⟨Nat.le_refl _, by decide⟩
    · cases h
  | c :: d :: r, z, h => by
    rw [qsL] at h
    split at h
    · split at h
      · obtain ⟨y, hy, rfl⟩ := Option.map_eq_some_iff.1 h
        have := qsL_len r y hy
        exact ⟨by simp only [List.length_cons]; omega, by simp only [List.length_cons]; omega⟩
      · cases h; exact ⟨by simp, by decide⟩
    · obtain ⟨y, hy, rfl⟩ := Option.map_eq_some_iff.1 h
      have := qsL_len (d :: r) y hy
      exact ⟨by simp only [List.length_cons] at this ⊢; omega, by simp only [List.length_cons] at this ⊢; omega⟩
/-- a sign that is no quote's -/
theorem qsL_c {c : UInt8} {r : Byt} (h : c.toNat ≠ 39) : qsL (c :: r) = (qsL r).map fun z => (c :: z.1, z.2 + 1) := by
  cases r with
  | nil => show (if c.toNat = 39 then some ([], 1) else none) = _; rw [if_neg h]; rfl
  | cons d r => rw [qsL, if_neg h]
theorem qsL_qq {c d : UInt8} {r : Byt} (h : c.toNat = 39) (h2 : d.toNat = 39) : qsL (c :: d :: r) = (qsL r).map fun z => (c :: z.1, z.2 + 2) := by rw [qsL, if_pos h, if_pos h2]
theorem qsL_q {c : UInt8} {r : Byt} (h : c.toNat = 39) (h2 : r = [] ∨ (r.getD 0 0).toNat ≠ 39) : qsL (c :: r) = some ([], 1) := by
  cases r with
  | nil => show (if c.toNat = 39 then some ([], 1) else none) = _; rw [if_pos h]
  | cons d r =>
    rcases h2 with h2 | h2
    · cases h2
    · have h2 : d.toNat ≠ 39 := h2
      rw [qsL, if_pos h, if_neg h2]
/-- what comes of it: error, text, where the scanner stands then -/
def quE (r : Byt) : Int := match qsL r with
  | none => 4
  | some z => if 40 < z.1.length then 1 else if vld z.1 = true then 0 else 3
def quK (r : Byt) : Tok := match qsL r with
  | none => tok0
  | some z => if 40 < z.1.length then tok0 else if vld z.1 = true then ⟨4, z.1, 0, 0⟩ else tok0
def quA (s : Byt) (i : Nat) : Nat := match qsL (s.drop (i + 1)) with
  | none => s.length
  | some z => i + 1 + z.2
theorem stepU_le {x : Byt} {k : Nat} (h : stepU x = some k) (hx : 0 < x.length := by omega) : k ≤ x.length := by
  have b2 := bad2_iff x
  have b3 := bad3_iff x
  have b4 := bad4_iff x
  unfold stepU at h
  split at h
  · cases h; omega
  · split at h
    · split at h
      · cases h
      · rename_i hb
        have := mt b2.2 hb
        cases h
        omega
    · split at h
      · split at h
        · cases h
        · rename_i hb
          have := mt b3.2 hb
          cases h
          omega
      · split at h
        · split at h
          · cases h
          · rename_i hb
            have := mt b4.2 hb
            cases h
            omega
        · cases h
set_option maxRecDepth 10000 in
set_option maxHeartbeats 2000000 in
theorem quote_fn (s : Byt) (i : Nat) (hi : i < s.length) (hs : s.length ≤ 300) : FnH Tryd.prog 90 ((gK)) (msS s i) [.one (.ptr 900000 0 0)] (rTk (quK (s.drop (i + 1))) (quE (s.drop (i + 1)))) (msS s (quA s i)) := by
  refine fn_introH (T := tab) tOk Tryd.func90 rfl (by kernel_rfl) (by simp [Tryd.ntmps90]) rfl rfl ?_
  intro X hX
  have hnt : X.nt = 105 := hX
  clear hX
  have ls : (strB s).size = s.length := strB_size s
  have hw : IntKind.i64.wrap ((i : Int) + 1) = ((i + 1 : Nat) : Int) := by rw [wrap64_id (by omega) (by omega)]; rfl
  have hA : quA s i = match qsL (s.drop (i + 1)) with | none => s.length | some z => i + 1 + z.2 := rfl
  generalize hr : s.drop (i + 1) = r at *
  repeat' (first | refine tr_seq ?_ | refine tr_block ?_ | refine tr_skip ?_)
  first | refine reg (T := tab) tOk hnt rfl ?_ ?_ | refine regD (T := tab) tOk mixedR hnt rfl (by first | decide +kernel | kernel_rfl) ?_ ?_
  · (dsimp only [AllP]; (repeat' first | exact trivial | assumption | exact Nat.le_of_ble_eq_true rfl | apply And.intro | decide | intro _ | exact rfl))
  repeat' (first | refine tr_seq ?_ | refine tr_block ?_ | refine tr_skip ?_)
  first | refine reg (T := tab) tOk hnt rfl ?_ ?_ | refine regD (T := tab) tOk mixedR hnt rfl (by first | decide +kernel | kernel_rfl) ?_ ?_
  · simp only [sc0, sc1, strB_size]
    (dsimp only [AllP]; (repeat' first | exact trivial | assumption | exact Nat.le_of_ble_eq_true rfl | apply And.intro | exact eCells_len1 _ _ ‹_› | exact eCells_isByte _ _ ‹_› | (intro hh_; have hg_ := hh_; (try simp only [condT_ff, condF_tt, notE_t, notE_f, Bool.and_eq_true, ne_eq, decide_eq_true_eq, decide_eq_false_iff_not] at hg_)) | intro _ | exact rfl | omega))
  repeat' (first | refine tr_seq ?_ | refine tr_block ?_ | refine tr_skip ?_)
  first | refine reg (T := tab) tOk hnt rfl ?_ ?_ | refine regD (T := tab) tOk mixedR hnt rfl (by first | decide +kernel | kernel_rfl) ?_ ?_
  · (dsimp only [AllP]; (repeat' first | exact trivial | assumption | exact Nat.le_of_ble_eq_true rfl | apply And.intro | decide | intro _ | exact rfl))
  repeat' (first | refine tr_seq ?_ | refine tr_block ?_ | refine tr_skip ?_)
  refine tr_loop (σ := Nat × Byt) (fun x => St.of [(0, .one (.ptr 900000 0 0)), (2, .one (.ptr 2 0 0)), (4, .one (.own 78 0)), (900000, .one (.ptr 900000 0 0)), ((1000000 + 0), .one (.eptr fsE)), ((1000000 + 1), .one (.eptr acE))] [(900000, ⟨0, .box (.es [eT s, eI (x.1 : Int)]), 0⟩), (2, ⟨0, .box (.es (eTok tok0)), 0⟩), (78, ⟨0, .row 1 (eCells x.2), 0⟩)]) (fun x => x.1 ≤ s.length ∧ i + 1 ≤ x.1 ∧ x.2.length ≤ x.1 ∧ qsL r = (qsL (s.drop x.1)).map fun z => (x.2 ++ z.1, x.1 - (i + 1) + z.2)) (fun x => s.length - x.1) ((i + 1, [])) (le_of (ad := [78]) (by refine ⟨?_, ?_, ?_, ?_, ?_, ?_, trivial⟩ <;> first | exact trivial | rfl | exact ⟨rfl, rfl⟩ | exact ⟨rfl, rfl, rfl⟩ | exact ⟨rfl, rfl, rfl, rfl⟩ | exact ⟨rfl, rfl, rfl, rfl, rfl⟩ | exact congrArg (fun z : Int => E.v (.int .i64 z)) (wrap64_id (by omega) (by omega)) | exact congrArg (fun z : Int => E.v (.int .u8 z)) (by assumption) | exact congrArg (fun z : ByteArray => E.v (.string z)) (by assumption) | (refine ⟨rfl, ?_⟩; repeat' first | exact trivial | rfl | apply And.intro)) (memOk_box rfl rfl (congrArg (fun z : Int => [eT s, eI z]) hw) (memOk_box rfl rfl rfl (memOk_new rfl (by decide) trivial)))) ⟨hi, Nat.le_refl _, Nat.zero_le _, by dsimp only; rw [hr, Nat.sub_self]; simp⟩ ?_
  rintro ⟨j, acc⟩ ⟨jl, ij, al, hJ⟩
  dsimp only at jl ij al hJ ⊢
  repeat' (first | refine tr_seq ?_ | refine tr_block ?_ | refine tr_skip ?_)
  first | refine reg (T := tab) tOk hnt rfl ?_ ?_ | refine regD (T := tab) tOk mixedR hnt rfl (by first | decide +kernel | kernel_rfl) ?_ ?_
  · simp only [sc0, sc1, strB_size]
    (dsimp only [AllP]; (repeat' first | exact trivial | assumption | exact Nat.le_of_ble_eq_true rfl | apply And.intro | exact eCells_len1 _ _ ‹_› | exact eCells_isByte _ _ ‹_› | (intro hh_; have hg_ := hh_; (try simp only [condT_ff, condF_tt, notE_t, notE_f, Bool.and_eq_true, ne_eq, decide_eq_true_eq, decide_eq_false_iff_not] at hg_)) | intro _ | exact rfl | omega))
  repeat' (first | refine tr_seq ?_ | refine tr_block ?_ | refine tr_skip ?_)
  refine tr_cond rfl (fun hc => ?_) (fun hc => ?_)
  · have hc : (((strB s).size : Nat) : Int) ≤ (j : Int) := of_decide_eq_true hc
    rw [List.drop_eq_nil_of_le (by omega), qsL] at hJ
    have hJ : qsL r = none := hJ
    rw [hJ] at hA
    have hK : quK r = tok0 := by unfold quK; rw [hJ]
    have hE : quE r = 4 := by unfold quE; rw [hJ]
    rw [hK, hE, hA, show s.length = j by omega]
    repeat' (first | refine tr_seq ?_ | refine reg (T := tab) tOk hnt rfl ?_ ?_ | refine regD (T := tab) tOk mixedR hnt rfl (by first | decide +kernel | kernel_rfl) ?_ ?_ | refine tr_block ?_ | refine tr_skip ?_)
    · (dsimp only [AllP]; (repeat' first | exact trivial | assumption | exact Nat.le_of_ble_eq_true rfl | apply And.intro | decide | intro _ | exact rfl))
    exact tr_ret ⟨.inr rfl, _, _, _, rfl, by (repeat' first | exact trivial | exact Nat.le_of_ble_eq_true rfl | apply And.intro), rfl, fun X => le_of (ad := []) ⟨⟨⟨rfl, rfl⟩, ⟨rfl, rfl⟩, trivial⟩, ⟨rfl, rfl, rfl, rfl, rfl⟩, trivial⟩ (memOk_box rfl rfl rfl trivial)⟩
  have hc : ¬ (((strB s).size : Nat) : Int) ≤ (j : Int) := of_decide_eq_false hc
  have hlt : j < s.length := by omega
  rw [drop_getD (d := 0) hlt] at hJ
  have hwj : IntKind.i64.wrap ((j : Int) + 1) = ((j + 1 : Nat) : Int) := by rw [wrap64_id (by omega) (by omega)]; rfl
  repeat' (first | refine tr_seq ?_ | refine tr_block ?_ | refine tr_skip ?_)
  first | refine reg (T := tab) tOk hnt rfl ?_ ?_ | refine regD (T := tab) tOk mixedR hnt rfl (by first | decide +kernel | kernel_rfl) ?_ ?_
  · simp only [sc0, sc1, strB_size]
    (dsimp only [AllP]; (repeat' first | exact trivial | assumption | exact Nat.le_of_ble_eq_true rfl | apply And.intro | exact eCells_len1 _ _ ‹_› | exact eCells_isByte _ _ ‹_› | (intro hh_; have hg_ := hh_; (try simp only [condT_ff, condF_tt, notE_t, notE_f, Bool.and_eq_true, ne_eq, decide_eq_true_eq, decide_eq_false_iff_not] at hg_)) | intro _ | exact rfl | omega))
  rw [show (([eT s, eI (j : Int)].getD (0 + 0) E.dflt).str.data.toList.getD (Int.toNat ([eT s, eI (j : Int)].getD (0 + 1) E.dflt).int) 0) = s.getD j 0 by rw [sc0, sc1, strB_list, Int.toNat_natCast]]
  generalize s.getD j 0 = c at *
  repeat' (first | refine tr_seq ?_ | refine tr_block ?_ | refine tr_skip ?_)
  first | refine reg (T := tab) tOk hnt rfl ?_ ?_ | refine regD (T := tab) tOk mixedR hnt rfl (by first | decide +kernel | kernel_rfl) ?_ ?_
  · simp only [sc0, sc1, strB_size]
    (dsimp only [AllP]; (repeat' first | exact trivial | assumption | exact Nat.le_of_ble_eq_true rfl | apply And.intro | exact eCells_len1 _ _ ‹_› | exact eCells_isByte _ _ ‹_› | (intro hh_; have hg_ := hh_; (try simp only [condT_ff, condF_tt, notE_t, notE_f, Bool.and_eq_true, ne_eq, decide_eq_true_eq, decide_eq_false_iff_not] at hg_)) | intro _ | exact rfl | omega))
  refine tr_le (s' := St.of [(0, .one (.ptr 900000 0 0)), (2, .one (.ptr 2 0 0)), (4, .one (.own 78 0)), (5, .one (.e (eB c))), (900000, .one (.ptr 900000 0 0)), ((1000000 + 0), .one (.eptr fsE)), ((1000000 + 1), .one (.eptr acE))] [(900000, ⟨0, .box (.es [eT s, eI ((j + 1 : Nat) : Int)]), 0⟩), (2, ⟨0, .box (.es (eTok tok0)), 0⟩), (78, ⟨0, .row 1 (eCells acc), 0⟩)]) (le_of (ad := []) (by refine ⟨?_, ?_, ?_, ?_, ?_, ?_, ?_, trivial⟩ <;> first | exact trivial | rfl | exact ⟨rfl, rfl⟩ | exact ⟨rfl, rfl, rfl⟩ | exact ⟨rfl, rfl, rfl, rfl⟩ | exact ⟨rfl, rfl, rfl, rfl, rfl⟩ | exact congrArg (fun z : Int => E.v (.int .i64 z)) (wrap64_id (by omega) (by omega)) | exact congrArg (fun z : Int => E.v (.int .u8 z)) (by assumption) | exact congrArg (fun z : ByteArray => E.v (.string z)) (by assumption) | (refine ⟨rfl, ?_⟩; repeat' first | exact trivial | rfl | apply And.intro)) (memOk_box rfl rfl (congrArg (fun z : Int => [eT s, eI z]) hwj) (memOk_box rfl rfl rfl (memOk_row rfl rfl rfl trivial)))) ?_
  repeat' (first | refine tr_seq ?_ | refine tr_block ?_ | refine tr_skip ?_)
  first | refine reg (T := tab) tOk hnt rfl ?_ ?_ | refine regD (T := tab) tOk mixedR hnt rfl (by first | decide +kernel | kernel_rfl) ?_ ?_
  · (dsimp only [AllP]; (repeat' first | exact trivial | assumption | exact Nat.le_of_ble_eq_true rfl | apply And.intro | decide | intro _ | exact rfl))
  have lac : (eCells acc).length = acc.length := eCells_length acc
  repeat' (first | refine tr_seq ?_ | refine tr_block ?_ | refine tr_skip ?_)
  refine tr_cond rfl (fun hc => ?_) (fun hc => ?_)
  · have hc39 : ((c.toNat : Nat) : Int) = 39 := of_decide_eq_true hc
    have hc39 : c.toNat = 39 := by omega
    have hcx : (bif decide (([eT s, eI ((j + 1 : Nat) : Int)].getD (0 + 1) E.dflt).int ≥ ((([eT s, eI ((j + 1 : Nat) : Int)].getD (0 + 0) E.dflt).str.size : Nat) : Int)) then true else !decide ((((([eT s, eI ((j + 1 : Nat) : Int)].getD (0 + 0) E.dflt).str.data.toList.getD (Int.toNat ([eT s, eI ((j + 1 : Nat) : Int)].getD (0 + 1) E.dflt).int) 0).toNat : Nat) : Int) = 39)) = decide (s.drop (j + 1) = [] ∨ ((s.drop (j + 1)).getD 0 0).toNat ≠ 39) := by
      rw [sc0, sc1, strB_list, Int.toNat_natCast, strB_size]
      by_cases h : s.length ≤ j + 1
      · rw [decide_eq_true (by omega : ((j + 1 : Nat) : Int) ≥ (s.length : Int)), cond_true, decide_eq_true (.inl (List.drop_eq_nil_of_le h))]
      · rw [decide_eq_false (by omega : ¬ ((j + 1 : Nat) : Int) ≥ (s.length : Int)), cond_false, drop_getD (d := 0) (by omega : j + 1 < s.length), List.getD_cons_zero]
        by_cases h2 : (s.getD (j + 1) 0).toNat = 39
        · rw [decide_eq_true (by omega : ((((s.getD (j + 1) 0).toNat : Nat) : Int) = 39)), decide_eq_false (fun e => e.elim (fun e => nomatch e) (fun e => e h2))]
          rfl
        · rw [decide_eq_false (by omega : ¬ ((((s.getD (j + 1) 0).toNat : Nat) : Int) = 39)), decide_eq_true (.inr h2)]
          rfl
    repeat' (first | refine tr_seq ?_ | refine tr_block ?_ | refine tr_skip ?_)
    first | refine reg (T := tab) tOk hnt rfl ?_ ?_ | refine regD (T := tab) tOk mixedR hnt rfl (by first | decide +kernel | kernel_rfl) ?_ ?_
    · simp only [sc0, sc1, strB_size]
      (dsimp only [AllP]; (repeat' first | exact trivial | assumption | exact Nat.le_of_ble_eq_true rfl | apply And.intro | exact eCells_len1 _ _ ‹_› | exact eCells_isByte _ _ ‹_› | (intro hh_; have hg_ := hh_; (try simp only [condT_ff, condF_tt, notE_t, notE_f, Bool.and_eq_true, ne_eq, decide_eq_true_eq, decide_eq_false_iff_not] at hg_)) | intro _ | exact rfl | omega))
    repeat' (first | refine tr_seq ?_ | refine tr_block ?_ | refine tr_skip ?_)
    refine tr_cond rfl (fun hc => ?_) (fun hc => ?_)
    · have hc := of_decide_eq_true (hcx.symm.trans hc)
      rw [qsL_q hc39 hc] at hJ
      have hJ : qsL r = some (acc, j - (i + 1) + 1) := by rw [hJ]; show some (acc ++ [], _) = _; rw [List.append_nil]
      refine tr_exit ?_
      rw [hJ] at hA
      have hA : quA s i = j + 1 := by rw [hA]; show i + 1 + (j - (i + 1) + 1) = j + 1; omega
      rw [hA]
      have hK : quK r = if 40 < acc.length then tok0 else if vld acc = true then ⟨4, acc, 0, 0⟩ else tok0 := by unfold quK; rw [hJ]
      have hE : quE r = if 40 < acc.length then 1 else if vld acc = true then 0 else 3 := by unfold quE; rw [hJ]
      refine tr_le (le_frz 4 rfl rfl) ?_
      refine tr_le (s' := St.of [(2, .one (.ptr 2 0 0)), (4, .one (.e (eBytes acc))), (900000, .one (.ptr 900000 0 0)), ((1000000 + 0), .one (.eptr fsE)), ((1000000 + 1), .one (.eptr acE))] [(900000, ⟨0, .box (.es [eT s, eI ((j + 1 : Nat) : Int)]), 0⟩), (2, ⟨0, .box (.es (eTok tok0)), 0⟩)]) (le_of (ad := []) (by refine ⟨?_, ?_, ?_, ?_, ?_, trivial⟩ <;> first | exact trivial | rfl | exact ⟨rfl, rfl⟩ | exact ⟨rfl, rfl, rfl⟩ | exact ⟨rfl, rfl, rfl, rfl⟩ | exact ⟨rfl, rfl, rfl, rfl, rfl⟩ | exact congrArg (fun z : Int => E.v (.int .i64 z)) (wrap64_id (by omega) (by omega)) | exact congrArg (fun z : Int => E.v (.int .u8 z)) (by assumption) | exact congrArg (fun z : ByteArray => E.v (.string z)) (by assumption) | (refine ⟨rfl, ?_⟩; repeat' first | exact trivial | rfl | apply And.intro)) (memOk_box rfl rfl rfl (memOk_box rfl rfl rfl trivial))) ?_
      repeat' (first | refine tr_seq ?_ | refine tr_block ?_ | refine tr_skip ?_)
      first | refine reg (T := tab) tOk hnt rfl ?_ ?_ | refine regD (T := tab) tOk mixedR hnt rfl (by first | decide +kernel | kernel_rfl) ?_ ?_
      · (dsimp only [AllP]; (repeat' first | exact trivial | assumption | exact Nat.le_of_ble_eq_true rfl | apply And.intro | decide | intro _ | exact rfl))
      rw [lac]
      repeat' (first | refine tr_seq ?_ | refine tr_block ?_ | refine tr_skip ?_)
      refine tr_cond rfl (fun hc => ?_) (fun hc => ?_)
      · simp only [condT_tt, condT_ff, condF_tt, condF_ff, notE_t, notE_f, decide_eq_true_eq, decide_eq_false_iff_not] at hc
        rw [if_pos (by omega)] at hK hE
        rw [hK, hE]
        repeat' (first | refine tr_seq ?_ | refine reg (T := tab) tOk hnt rfl ?_ ?_ | refine regD (T := tab) tOk mixedR hnt rfl (by first | decide +kernel | kernel_rfl) ?_ ?_ | refine tr_block ?_ | refine tr_skip ?_)
        · (dsimp only [AllP]; (repeat' first | exact trivial | assumption | exact Nat.le_of_ble_eq_true rfl | apply And.intro | decide | intro _ | exact rfl))
        exact tr_ret ⟨.inr rfl, _, _, _, rfl, by (repeat' first | exact trivial | exact Nat.le_of_ble_eq_true rfl | apply And.intro), rfl, fun X => le_of (ad := []) ⟨⟨⟨rfl, rfl⟩, ⟨rfl, rfl⟩, trivial⟩, ⟨rfl, rfl, rfl, rfl, rfl⟩, trivial⟩ (memOk_box rfl rfl rfl trivial)⟩
      simp only [condT_tt, condT_ff, condF_tt, condF_ff, notE_t, notE_f, decide_eq_true_eq, decide_eq_false_iff_not] at hc
      rw [if_neg (by omega)] at hK hE
      repeat' (first | refine tr_seq ?_ | refine tr_block ?_ | refine tr_skip ?_)
      first | refine reg (T := tab) tOk hnt rfl ?_ ?_ | refine regD (T := tab) tOk mixedR hnt rfl (by first | decide +kernel | kernel_rfl) ?_ ?_
      · (dsimp only [AllP]; (repeat' first | exact trivial | assumption | exact Nat.le_of_ble_eq_true rfl | apply And.intro | exact eCells_len1 _ _ ‹_› | exact eCells_isByte _ _ ‹_› | (intro hh_; have hg_ := hh_; (try simp only [condT_ff, condF_tt, notE_t, notE_f, Bool.and_eq_true, ne_eq, decide_eq_true_eq, decide_eq_false_iff_not] at hg_)) | intro _ | exact rfl | omega))
      rw [strB_of, show runes (strB acc) = runesF (strB acc) acc.length 0 by unfold runes; rw [strB_size]]
      clear hcx
      repeat' (first | refine tr_seq ?_ | refine tr_block ?_ | refine tr_skip ?_)
      refine tr_loop (σ := Nat × Nat) (fun x => St.of [(2, .one (.ptr 2 0 0)), (4, .one (.e (eBytes acc))), (85, .one (.ptr 85 0 0)), (900000, .one (.ptr 900000 0 0)), ((1000000 + 0), .one (.eptr fsE)), ((1000000 + 1), .one (.eptr acE))] [(900000, ⟨0, .box (.es [eT s, eI ((j + 1 : Nat) : Int)]), 0⟩), (2, ⟨0, .box (.es (eTok tok0)), 0⟩), (85, ⟨0, .raw (.iter (strB acc) x.1 (runesF (strB acc) x.2 x.1)), 0⟩)]) (fun x => acc.length ≤ x.1 + x.2 ∧ x.1 ≤ acc.length ∧ vld (acc.drop x.1) = vld acc) (fun x => acc.length - x.1) ((0, acc.length)) (le_of (ad := []) (by refine ⟨?_, ?_, ?_, ?_, ?_, ?_, trivial⟩ <;> first | exact trivial | rfl | exact ⟨rfl, rfl⟩ | exact ⟨rfl, rfl, rfl⟩ | exact ⟨rfl, rfl, rfl, rfl⟩ | exact ⟨rfl, rfl, rfl, rfl, rfl⟩ | exact congrArg (fun z : Int => E.v (.int .i64 z)) (wrap64_id (by omega) (by omega)) | exact congrArg (fun z : Int => E.v (.int .u8 z)) (by assumption) | exact congrArg (fun z : ByteArray => E.v (.string z)) (by assumption) | (refine ⟨rfl, ?_⟩; repeat' first | exact trivial | rfl | apply And.intro)) (memOk_box rfl rfl rfl (memOk_box rfl rfl rfl (memOk_raw rfl rfl rfl trivial)))) ⟨by dsimp only; omega, Nat.zero_le _, rfl⟩ ?_
      rintro ⟨pos, f⟩ ⟨hf, pl, hv⟩
      dsimp only at hf pl hv ⊢
      by_cases hp : pos < acc.length
      · obtain ⟨f, rfl⟩ : ∃ g, f = g + 1 := ⟨f - 1, by omega⟩
        have hxne : acc.drop pos ≠ [] := fun e => by have := congrArg List.length e; rw [List.length_drop] at this; simp at this; omega
        have hvs := vld_step hxne
        have hds := dec_step (acc.drop pos)
        have hdr := fun h => drs (acc.drop pos) hxne h
        have hge := fun h => ge_of_dec (x := acc.drop pos) h
        have hdN : dN (acc.drop pos) = if stepU (acc.drop pos) = none then 1 else 3 := rfl
        rw [runesF, if_pos (by rw [strB_size]; exact hp), dec_eq acc pos pl]
        generalize decX (acc.drop pos) = y at *
        obtain ⟨rc, wd⟩ := y
        dsimp only at hds hdr hge ⊢
        repeat' (first | refine tr_seq ?_ | refine reg (T := tab) tOk hnt rfl ?_ ?_ | refine regD (T := tab) tOk mixedR hnt rfl (by first | decide +kernel | kernel_rfl) ?_ ?_ | refine tr_block ?_ | refine tr_skip ?_)
        · (dsimp only [AllP]; (repeat' first | exact trivial | assumption | exact Nat.le_of_ble_eq_true rfl | apply And.intro | decide | intro _ | exact rfl))
        repeat' (first | refine tr_seq ?_ | refine tr_block ?_ | refine tr_skip ?_)
        refine tr_cond rfl (fun hc => ?_) (fun hc => ?_)
        · repeat' (first | refine tr_seq ?_ | refine tr_block ?_ | refine tr_skip ?_)
          first | refine reg (T := tab) tOk hnt rfl ?_ ?_ | refine regD (T := tab) tOk mixedR hnt rfl (by first | decide +kernel | kernel_rfl) ?_ ?_
          · (dsimp only [AllP]; (repeat' first | exact trivial | assumption | exact Nat.le_of_ble_eq_true rfl | apply And.intro | decide | intro _ | exact rfl))
          repeat' (first | refine tr_seq ?_ | refine tr_block ?_ | refine tr_skip ?_)
          first | refine reg (T := tab) tOk hnt rfl ?_ ?_ | refine regD (T := tab) tOk mixedR hnt rfl (by first | decide +kernel | kernel_rfl) ?_ ?_
          · (dsimp only [AllP]; (repeat' first | exact trivial | assumption | exact Nat.le_of_ble_eq_true rfl | apply And.intro | decide | intro _ | exact rfl))
          repeat' (first | refine tr_seq ?_ | refine tr_block ?_ | refine tr_skip ?_)
          refine tr_cond rfl (fun hc => ?_) (fun hc => ?_)
          · simp only [condT_tt, condT_ff, condF_tt, condF_ff, notE_t, notE_f, decide_eq_true_eq, decide_eq_false_iff_not] at hc
            have hc : rc = 65533 := by omega
            obtain ⟨rr, hdrs⟩ := hdr hc
            have hdc := dr_fn (acc.drop pos) rr hxne (hge hc) hdrs
            have hsl := sl_from acc pos ((eCells acc).length : Int) (by rw [lac])
            rw [show eBytes (acc.drop pos) = E.sl (List.take (Int.toNat ((eCells acc).length : Int) - Int.toNat (pos : Int)) (List.drop (Int.toNat (pos : Int)) (eCells acc))) by rw [hsl]; rfl] at hdc
            have hpm : (pos : Int) ≤ ((eCells acc).length : Int) := by rw [lac]; omega
            repeat' (first | refine tr_seq ?_ | refine tr_block ?_ | refine tr_skip ?_)
            refine tr_region (lex (T := tab) tOk hnt rfl ?_ (callV rfl rfl rfl rfl rfl rfl rfl hnt rfl (hdc) (lex (T := tab) tOk hnt rfl ?_ (Lex.nil _)))) ?_
            · (dsimp only [AllP]; (repeat' first | exact trivial | assumption | exact Nat.le_of_ble_eq_true rfl | apply And.intro | exact eCells_len1 _ _ ‹_› | exact eCells_isByte _ _ ‹_› | (intro hh_; have hg_ := hh_; (try simp only [condT_ff, condF_tt, notE_t, notE_f, Bool.and_eq_true, ne_eq, decide_eq_true_eq, decide_eq_false_iff_not] at hg_)) | intro _ | exact rfl | omega))
            · (dsimp only [AllP]; (repeat' first | exact trivial | assumption | exact Nat.le_of_ble_eq_true rfl | apply And.intro | exact eCells_len1 _ _ ‹_› | exact eCells_isByte _ _ ‹_› | (intro hh_; have hg_ := hh_; (try simp only [condT_ff, condF_tt, notE_t, notE_f, Bool.and_eq_true, ne_eq, decide_eq_true_eq, decide_eq_false_iff_not] at hg_)) | intro _ | exact rfl | omega))
            repeat' (first | refine tr_seq ?_ | refine reg (T := tab) tOk hnt rfl ?_ ?_ | refine regD (T := tab) tOk mixedR hnt rfl (by first | decide +kernel | kernel_rfl) ?_ ?_ | refine tr_block ?_ | refine tr_skip ?_)
            · (dsimp only [AllP]; (repeat' first | exact trivial | assumption | exact Nat.le_of_ble_eq_true rfl | apply And.intro | decide | intro _ | exact rfl))
            rcases hds with ⟨d1, d2⟩ | ⟨k, d1, d2, d3⟩
            · rw [d1] at hvs
              rw [if_pos d1] at hdN
              rw [hdN]
              have hvf : vld acc = false := hv.symm.trans hvs
              rw [if_neg (by rw [hvf]; exact Bool.false_ne_true)] at hK hE
              repeat' (first | refine tr_seq ?_ | refine tr_block ?_ | refine tr_skip ?_)
              refine tr_cond rfl (fun hc => ?_) (fun hc => ?_)
              · rw [hK, hE]
                repeat' (first | refine tr_seq ?_ | refine reg (T := tab) tOk hnt rfl ?_ ?_ | refine regD (T := tab) tOk mixedR hnt rfl (by first | decide +kernel | kernel_rfl) ?_ ?_ | refine tr_block ?_ | refine tr_skip ?_)
                · (dsimp only [AllP]; (repeat' first | exact trivial | assumption | exact Nat.le_of_ble_eq_true rfl | apply And.intro | decide | intro _ | exact rfl))
                exact tr_ret ⟨.inr rfl, _, _, _, rfl, by (repeat' first | exact trivial | exact Nat.le_of_ble_eq_true rfl | apply And.intro), rfl, fun X => le_of (ad := []) ⟨⟨⟨rfl, rfl⟩, ⟨rfl, rfl⟩, trivial⟩, ⟨rfl, rfl, rfl, rfl, rfl⟩, trivial⟩ (memOk_box rfl rfl rfl trivial)⟩
              · exact absurd (show true = false from hc) Bool.noConfusion
            · have hk := d3 hc
              subst hk
              rw [d1] at hvs
              rw [if_neg (by rw [d1]; exact fun h => nomatch h)] at hdN
              rw [hdN]
              have hv3 : vld ((acc.drop pos).drop 3) = vld acc := hvs.symm.trans hv
              rw [List.drop_drop] at hv3
              have hle := stepU_le d1 (List.length_pos_iff.2 hxne)
              rw [List.length_drop] at hle
              repeat' (first | refine tr_seq ?_ | refine tr_block ?_ | refine tr_skip ?_)
              refine tr_cond rfl (fun hc => ?_) (fun hc => ?_)
              · exact absurd (show false = true from hc) Bool.noConfusion
              repeat' (first | refine tr_seq ?_ | refine tr_block ?_ | refine tr_skip ?_)
              subst d2
              refine ⟨(pos + 3, f), ⟨by dsimp only; omega, by dsimp only; omega, hv3⟩, by dsimp only; omega, le_of (ad := []) ⟨⟨rfl, rfl, rfl, rfl, rfl⟩, rfl, ⟨rfl, rfl, rfl, rfl, rfl⟩, ⟨rfl, rfl, rfl, rfl, rfl⟩, rfl, rfl, trivial⟩ (memOk_box rfl rfl rfl (memOk_box rfl rfl rfl (memOk_raw rfl rfl rfl trivial)))⟩
          simp only [condT_tt, condT_ff, condF_tt, condF_ff, notE_t, notE_f, decide_eq_true_eq, decide_eq_false_iff_not] at hc
          rcases hds with ⟨d1, d2⟩ | ⟨k, d1, d2, d3⟩
          · exact absurd (Prod.mk.inj d2).1 (by omega)
          · rw [d1] at hvs
            subst d2
            have hv3 : vld ((acc.drop pos).drop wd) = vld acc := hvs.symm.trans hv
            rw [List.drop_drop] at hv3
            have hle := stepU_le d1 (List.length_pos_iff.2 hxne)
            have hps := stepU_pos d1
            rw [List.length_drop] at hle
            repeat' (first | refine tr_seq ?_ | refine tr_block ?_ | refine tr_skip ?_)
            refine ⟨(pos + wd, f), ⟨by dsimp only; omega, by dsimp only; omega, hv3⟩, by dsimp only; omega, le_of (ad := []) ⟨⟨rfl, rfl, rfl, rfl, rfl⟩, rfl, ⟨rfl, rfl, rfl, rfl, rfl⟩, ⟨rfl, rfl, rfl, rfl, rfl⟩, rfl, rfl, trivial⟩ (memOk_box rfl rfl rfl (memOk_box rfl rfl rfl (memOk_raw rfl rfl rfl trivial)))⟩
        · exact absurd (show true = false from hc) Bool.noConfusion
      · have hl0 : runesF (strB acc) f pos = [] := by
          cases f with
          | zero => rfl
          | succ f => rw [runesF, if_neg (by rw [strB_size]; exact hp)]
        rw [hl0]
        rw [List.drop_eq_nil_of_le (by omega), vld_nil] at hv
        rw [if_pos hv.symm] at hK hE
        repeat' (first | refine tr_seq ?_ | refine reg (T := tab) tOk hnt rfl ?_ ?_ | refine regD (T := tab) tOk mixedR hnt rfl (by first | decide +kernel | kernel_rfl) ?_ ?_ | refine tr_block ?_ | refine tr_skip ?_)
        · (dsimp only [AllP]; (repeat' first | exact trivial | assumption | exact Nat.le_of_ble_eq_true rfl | apply And.intro | decide | intro _ | exact rfl))
        repeat' (first | refine tr_seq ?_ | refine tr_block ?_ | refine tr_skip ?_)
        refine tr_cond rfl (fun hc => ?_) (fun hc => ?_)
        · exact absurd (show false = true from hc) Bool.noConfusion
        refine tr_exit ?_
        rw [hK, hE]
        repeat' (first | refine tr_seq ?_ | refine tr_block ?_ | refine tr_skip ?_)
        first | refine reg (T := tab) tOk hnt rfl ?_ ?_ | refine regD (T := tab) tOk mixedR hnt rfl (by first | decide +kernel | kernel_rfl) ?_ ?_
        · (dsimp only [AllP]; (repeat' first | exact trivial | assumption | exact Nat.le_of_ble_eq_true rfl | apply And.intro | exact eCells_len1 _ _ ‹_› | exact eCells_isByte _ _ ‹_› | (intro hh_; have hg_ := hh_; (try simp only [condT_ff, condF_tt, notE_t, notE_f, Bool.and_eq_true, ne_eq, decide_eq_true_eq, decide_eq_false_iff_not] at hg_)) | intro _ | exact rfl | omega))
        exact tr_ret ⟨.inr rfl, _, _, _, rfl, by (repeat' first | exact trivial | exact Nat.le_of_ble_eq_true rfl | apply And.intro), rfl, fun X => le_of (ad := []) ⟨⟨⟨rfl, (congrArg (fun z : ByteArray => [eI 4, E.v (.string z), eI 0, eQ 0]) (strB_of acc))⟩, ⟨rfl, rfl⟩, trivial⟩, ⟨rfl, rfl, rfl, rfl, rfl⟩, trivial⟩ (memOk_box rfl rfl rfl trivial)⟩
    have hc := of_decide_eq_false (hcx.symm.trans hc)
    have hj2 : j + 1 < s.length := by
      rcases Nat.lt_or_ge (j + 1) s.length with h | h
      · exact h
      · exact absurd (.inl (List.drop_eq_nil_of_le h)) hc
    have hd39 : (s.getD (j + 1) 0).toNat = 39 := by
      refine Classical.byContradiction fun h => hc (.inr ?_)
      rw [drop_getD (d := 0) hj2]
      exact h
    rw [drop_getD (d := 0) hj2, qsL_qq hc39 hd39, Option.map_map] at hJ
    have hwj2 : IntKind.i64.wrap (((j + 1 : Nat) : Int) + 1) = ((j + 1 + 1 : Nat) : Int) := by rw [wrap64_id (by omega) (by omega)]; rfl
    have hq1 : (eCells acc).length + 1 ≤ maxLen := by rw [lac]; simp only [maxLen]; omega
    have hq2 : ((eCells acc).length + 1) * 1 ≤ 140737488355328 := by rw [lac]; omega
    repeat' (first | refine tr_seq ?_ | refine tr_block ?_ | refine tr_skip ?_)
    first | refine reg (T := tab) tOk hnt rfl ?_ ?_ | refine regD (T := tab) tOk mixedR hnt rfl (by first | decide +kernel | kernel_rfl) ?_ ?_
    · simp only [sc0, sc1, strB_size]
      (dsimp only [AllP]; (repeat' first | exact trivial | assumption | exact Nat.le_of_ble_eq_true rfl | apply And.intro | exact eCells_len1 _ _ ‹_› | exact eCells_isByte _ _ ‹_› | (intro hh_; have hg_ := hh_; (try simp only [condT_ff, condF_tt, notE_t, notE_f, Bool.and_eq_true, ne_eq, decide_eq_true_eq, decide_eq_false_iff_not] at hg_)) | intro _ | exact rfl | omega))
    repeat' (first | refine tr_seq ?_ | refine tr_block ?_ | refine tr_skip ?_)
    first | refine reg (T := tab) tOk hnt rfl ?_ ?_ | refine regD (T := tab) tOk mixedR hnt rfl (by first | decide +kernel | kernel_rfl) ?_ ?_
    · (dsimp only [AllP]; (repeat' first | exact trivial | assumption | exact Nat.le_of_ble_eq_true rfl | apply And.intro | exact eCells_len1 _ _ ‹_› | exact eCells_isByte _ _ ‹_› | (intro hh_; have hg_ := hh_; (try simp only [condT_ff, condF_tt, notE_t, notE_f, Bool.and_eq_true, ne_eq, decide_eq_true_eq, decide_eq_false_iff_not] at hg_)) | intro _ | exact rfl | omega))
    repeat' (first | refine tr_seq ?_ | refine tr_block ?_ | refine tr_skip ?_)
    refine ⟨(j + 1 + 1, acc ++ [c]), ⟨by dsimp only; omega, by dsimp only; omega, by dsimp only; rw [List.length_append]; show acc.length + 1 ≤ j + 1 + 1; omega, ?_⟩, by dsimp only; omega, le_of (ad := []) ⟨⟨rfl, rfl, rfl, rfl, rfl⟩, ⟨rfl, rfl, rfl, rfl, rfl⟩, ⟨rfl, rfl, rfl, rfl⟩, ⟨rfl, rfl, rfl, rfl, rfl⟩, rfl, rfl, trivial⟩ (memOk_box rfl rfl (congrArg (fun z : Int => [eT s, eI z]) hwj2) (memOk_box rfl rfl rfl (memOk_row rfl rfl (eCells_append acc [c]) trivial)))⟩
    dsimp only
    rw [hJ]
    congr 1
    funext z
    show (acc ++ c :: z.1, j - (i + 1) + (z.2 + 2)) = (acc ++ [c] ++ z.1, j + 1 + 1 - (i + 1) + z.2)
    rw [List.append_assoc, show j + 1 + 1 - (i + 1) + z.2 = j - (i + 1) + (z.2 + 2) by omega]
    rfl
  have hc39 : ¬ ((c.toNat : Nat) : Int) = 39 := of_decide_eq_false hc
  have hc39 : c.toNat ≠ 39 := by omega
  rw [qsL_c hc39, Option.map_map] at hJ
  have hq1 : (eCells acc).length + 1 ≤ maxLen := by rw [lac]; simp only [maxLen]; omega
  have hq2 : ((eCells acc).length + 1) * 1 ≤ 140737488355328 := by rw [lac]; omega
  repeat' (first | refine tr_seq ?_ | refine tr_block ?_ | refine tr_skip ?_)
  first | refine reg (T := tab) tOk hnt rfl ?_ ?_ | refine regD (T := tab) tOk mixedR hnt rfl (by first | decide +kernel | kernel_rfl) ?_ ?_
  · (dsimp only [AllP]; (repeat' first | exact trivial | assumption | exact Nat.le_of_ble_eq_true rfl | apply And.intro | exact eCells_len1 _ _ ‹_› | exact eCells_isByte _ _ ‹_› | (intro hh_; have hg_ := hh_; (try simp only [condT_ff, condF_tt, notE_t, notE_f, Bool.and_eq_true, ne_eq, decide_eq_true_eq, decide_eq_false_iff_not] at hg_)) | intro _ | exact rfl | omega))
  repeat' (first | refine tr_seq ?_ | refine tr_block ?_ | refine tr_skip ?_)
  refine ⟨(j + 1, acc ++ [c]), ⟨hlt, by dsimp only; omega, by dsimp only; rw [List.length_append]; show acc.length + 1 ≤ j + 1; omega, ?_⟩, by dsimp only; omega, le_of (ad := []) ⟨⟨rfl, rfl, rfl, rfl, rfl⟩, ⟨rfl, rfl, rfl, rfl, rfl⟩, ⟨rfl, rfl, rfl, rfl⟩, ⟨rfl, rfl, rfl, rfl, rfl⟩, rfl, rfl, trivial⟩ (memOk_box rfl rfl rfl (memOk_box rfl rfl rfl (memOk_row rfl rfl (eCells_append acc [c]) trivial)))⟩
  dsimp only
  rw [hJ]
  congr 1
  funext z
  show (acc ++ c :: z.1, j - (i + 1) + (z.2 + 1)) = (acc ++ [c] ++ z.1, j + 1 - (i + 1) + z.2)
  rw [List.append_assoc, show j + 1 - (i + 1) + z.2 = j - (i + 1) + (z.2 + 1) by omega]
  rfl
end Go.Proofs.YtphaholcndhonaaDoor
namespace Go.Proofs.YtphaholcndhonaaDoor
open Go Go.RowKit Go.Proofs.YtphaholcndhonaaDoor.Ab
set_option linter.unusedSimpArgs false
set_option linter.unusedVariables false

/-- a token: what it is, what is wrong, where the scanner stands then -/
def tkX (s : Byt) (i : Nat) : Tok × Int × Nat :=
  if smallB (s.getD i 0) = true then (if 8 < rnL nameB s i then (tok0, 1, i + rnL nameB s i) else (⟨1, (s.drop i).takeWhile nameB, 0, 0⟩, 0, i + rnL nameB s i))
  else if greatB (s.getD i 0) = true then (if 8 < rnL greatB s i then (tok0, 1, i + rnL greatB s i) else (⟨2, (s.drop i).takeWhile greatB, 0, 0⟩, 0, i + rnL greatB s i))
  else if digitB (s.getD i 0) = true then (numK ((s.drop i).takeWhile digitB), (numR ((s.drop i).takeWhile digitB)).2, i + rnL digitB s i)
  else if (s.getD i 0).toNat = 39 then (quK (s.drop (i + 1)), quE (s.drop (i + 1)), quA s i)
  else if (s.getD i 0).toNat = 35 then (hxK (s.drop (i + 1)), (hxR (s.drop (i + 1))).1, i + 1 + (hxL 16 (s.drop (i + 1)) 0).2.2)
  else (sgK (s.drop i), sgE (s.drop i), i + sgN (s.drop i))
set_option maxRecDepth 10000 in
set_option maxHeartbeats 2000000 in
theorem token_fn (s : Byt) (i : Nat) (hi : i < s.length) (hs : s.length ≤ 300) : FnH Tryd.prog 45 ((gK)) (msS s i) [.one (.ptr 900000 0 0)] (rTk (tkX s i).1 (tkX s i).2.1) (msS s (tkX s i).2.2) := by
  refine fn_introH (T := tab) tOk Tryd.func45 rfl (by kernel_rfl) (by simp [Tryd.ntmps45]) rfl rfl ?_
  intro X hX
  have hnt : X.nt = 63 := hX
  clear hX
  have ls : (strB s).size = s.length := strB_size s
  have hX : tkX s i = tkX s i := rfl
  conv at hX => rhs; unfold tkX
  generalize tkX s i = Z at *
  repeat' (first | refine tr_seq ?_ | refine tr_block ?_ | refine tr_skip ?_)
  first | refine reg (T := tab) tOk hnt rfl ?_ ?_ | refine regD (T := tab) tOk mixedR hnt rfl (by first | decide +kernel | kernel_rfl) ?_ ?_
  · (dsimp only [AllP]; (repeat' first | exact trivial | assumption | exact Nat.le_of_ble_eq_true rfl | apply And.intro | decide | intro _ | exact rfl))
  repeat' (first | refine tr_seq ?_ | refine tr_block ?_ | refine tr_skip ?_)
  first | refine reg (T := tab) tOk hnt rfl ?_ ?_ | refine regD (T := tab) tOk mixedR hnt rfl (by first | decide +kernel | kernel_rfl) ?_ ?_
  · simp only [sc0, sc1, strB_size]
    (dsimp only [AllP]; (repeat' first | exact trivial | assumption | exact Nat.le_of_ble_eq_true rfl | apply And.intro | exact eCells_len1 _ _ ‹_› | exact eCells_isByte _ _ ‹_› | (intro hh_; have hg_ := hh_; (try simp only [condT_ff, condF_tt, notE_t, notE_f, Bool.and_eq_true, ne_eq, decide_eq_true_eq, decide_eq_false_iff_not] at hg_)) | intro _ | exact rfl | omega))
  rw [show (([eT s, eI (i : Int)].getD (0 + 0) E.dflt).str.data.toList.getD (Int.toNat ([eT s, eI (i : Int)].getD (0 + 1) E.dflt).int) 0) = s.getD i 0 by rw [sc0, sc1, strB_list, Int.toNat_natCast]]
  generalize hc0 : s.getD i 0 = c at *
  repeat' (first | refine tr_seq ?_ | refine tr_block ?_ | refine tr_skip ?_)
  refine tr_region (lex (T := tab) tOk hnt rfl ?_ (call rfl rfl rfl rfl rfl rfl rfl hnt ((small_fn c)) (lex (T := tab) tOk hnt rfl ?_ (Lex.nil _)))) ?_
  · (dsimp only [AllP]; (repeat' first | exact trivial | assumption | exact Nat.le_of_ble_eq_true rfl | apply And.intro | decide | intro _ | exact rfl))
  · (dsimp only [AllP]; (repeat' first | exact trivial | assumption | exact Nat.le_of_ble_eq_true rfl | apply And.intro | decide | intro _ | exact rfl))
  repeat' (first | refine tr_seq ?_ | refine tr_block ?_ | refine tr_skip ?_)
  refine tr_cond rfl (fun hc => ?_) (fun hc => ?_)
  · have hc : smallB c = true := hc
    rw [if_pos hc] at hX
    have hrun := run_fn _ nameB inName_fn s i (Nat.le_of_lt hi) hs
    have hrl : ((s.drop i).takeWhile nameB).length = rnL nameB s i := rfl
    have hle := rnL_le (q := nameB) (s := s) (i := i) (Nat.le_of_lt hi)
    generalize (s.drop i).takeWhile nameB = t at *
    generalize rnL nameB s i = n at *
    repeat' (first | refine tr_seq ?_ | refine tr_block ?_ | refine tr_skip ?_)
    refine tr_region (lex (T := tab) tOk hnt rfl ?_ (callH (us := []) [(900000, 900000)] [] [] rfl rfl rfl rfl (hrun) (by repeat' first | exact .nil | refine .lent rfl rfl rfl ?_ | refine .data rfl ?_) (fun _ => rfl) rfl rfl hnt rfl rfl (by repeat' first | exact trivial | rfl | apply And.intro) (by repeat' first | exact trivial | rfl | apply And.intro) (lex (T := tab) tOk hnt rfl ?_ (Lex.nil _)))) ?_
    · (dsimp only [AllP]; (repeat' first | exact trivial | assumption | exact Nat.le_of_ble_eq_true rfl | apply And.intro | exact eCells_len1 _ _ ‹_› | exact eCells_isByte _ _ ‹_› | (intro hh_; have hg_ := hh_; (try simp only [condT_ff, condF_tt, notE_t, notE_f, Bool.and_eq_true, ne_eq, decide_eq_true_eq, decide_eq_false_iff_not] at hg_)) | intro _ | exact rfl | omega))
    · (dsimp only [AllP]; (repeat' first | exact trivial | assumption | exact Nat.le_of_ble_eq_true rfl | apply And.intro | exact eCells_len1 _ _ ‹_› | exact eCells_isByte _ _ ‹_› | (intro hh_; have hg_ := hh_; (try simp only [condT_ff, condF_tt, notE_t, notE_f, Bool.and_eq_true, ne_eq, decide_eq_true_eq, decide_eq_false_iff_not] at hg_)) | intro _ | exact rfl | omega))
    refine tr_le (s' := St.of [(0, .one (.ptr 900000 0 0)), (2, .one (.ptr 2 0 0)), (5, .one (.e (eT t))), (900000, .one (.ptr 900000 0 0))] [(900000, ⟨0, .box (.es [eT s, eI ((i + n : Nat) : Int)]), 0⟩), (2, ⟨0, .box (.es (eTok tok0)), 0⟩)]) (le_of (ad := []) (by refine ⟨?_, ?_, ?_, ?_, trivial⟩ <;> first | exact trivial | rfl | exact ⟨rfl, rfl⟩ | exact ⟨rfl, rfl, rfl⟩ | exact ⟨rfl, rfl, rfl, rfl⟩ | exact ⟨rfl, rfl, rfl, rfl, rfl⟩ | exact congrArg (fun z : Int => E.v (.int .i64 z)) (wrap64_id (by omega) (by omega)) | exact congrArg (fun z : Int => E.v (.int .u8 z)) (by assumption) | exact congrArg (fun z : ByteArray => E.v (.string z)) (by assumption) | (refine ⟨rfl, ?_⟩; repeat' first | exact trivial | rfl | apply And.intro)) (memOk_box rfl rfl rfl (memOk_box rfl rfl rfl trivial))) ?_
    have lt : (strB t).size = t.length := strB_size t
    repeat' (first | refine tr_seq ?_ | refine tr_block ?_ | refine tr_skip ?_)
    first | refine reg (T := tab) tOk hnt rfl ?_ ?_ | refine regD (T := tab) tOk mixedR hnt rfl (by first | decide +kernel | kernel_rfl) ?_ ?_
    · (dsimp only [AllP]; (repeat' first | exact trivial | assumption | exact Nat.le_of_ble_eq_true rfl | apply And.intro | decide | intro _ | exact rfl))
    rw [lt]
    repeat' (first | refine tr_seq ?_ | refine tr_block ?_ | refine tr_skip ?_)
    refine tr_cond rfl (fun hc => ?_) (fun hc => ?_)
    · simp only [condT_tt, condT_ff, condF_tt, condF_ff, notE_t, notE_f, decide_eq_true_eq, decide_eq_false_iff_not] at hc
      rw [if_pos (by omega)] at hX
      cases hX
      repeat' (first | refine tr_seq ?_ | refine reg (T := tab) tOk hnt rfl ?_ ?_ | refine regD (T := tab) tOk mixedR hnt rfl (by first | decide +kernel | kernel_rfl) ?_ ?_ | refine tr_block ?_ | refine tr_skip ?_)
      · (dsimp only [AllP]; (repeat' first | exact trivial | assumption | exact Nat.le_of_ble_eq_true rfl | apply And.intro | decide | intro _ | exact rfl))
      exact tr_ret ⟨.inr rfl, _, _, _, rfl, by (repeat' first | exact trivial | exact Nat.le_of_ble_eq_true rfl | apply And.intro), rfl, fun X => le_of (ad := []) ⟨⟨⟨rfl, rfl⟩, ⟨rfl, rfl⟩, trivial⟩, ⟨rfl, rfl, rfl, rfl, rfl⟩, trivial⟩ (memOk_box rfl rfl rfl trivial)⟩
    simp only [condT_tt, condT_ff, condF_tt, condF_ff, notE_t, notE_f, decide_eq_true_eq, decide_eq_false_iff_not] at hc
    rw [if_neg (by omega)] at hX
    cases hX
    repeat' (first | refine tr_seq ?_ | refine reg (T := tab) tOk hnt rfl ?_ ?_ | refine regD (T := tab) tOk mixedR hnt rfl (by first | decide +kernel | kernel_rfl) ?_ ?_ | refine tr_block ?_ | refine tr_skip ?_)
    · (dsimp only [AllP]; (repeat' first | exact trivial | assumption | exact Nat.le_of_ble_eq_true rfl | apply And.intro | decide | intro _ | exact rfl))
    exact tr_ret ⟨.inr rfl, _, _, _, rfl, by (repeat' first | exact trivial | exact Nat.le_of_ble_eq_true rfl | apply And.intro), rfl, fun X => le_of (ad := []) ⟨⟨⟨rfl, rfl⟩, ⟨rfl, rfl⟩, trivial⟩, ⟨rfl, rfl, rfl, rfl, rfl⟩, trivial⟩ (memOk_box rfl rfl rfl trivial)⟩
  have hc : smallB c = false := hc
  rw [if_neg (by rw [hc]; exact Bool.false_ne_true)] at hX
  repeat' (first | refine tr_seq ?_ | refine tr_block ?_ | refine tr_skip ?_)
  refine tr_region (lex (T := tab) tOk hnt rfl ?_ (call rfl rfl rfl rfl rfl rfl rfl hnt ((great_fn c)) (lex (T := tab) tOk hnt rfl ?_ (Lex.nil _)))) ?_
  · (dsimp only [AllP]; (repeat' first | exact trivial | assumption | exact Nat.le_of_ble_eq_true rfl | apply And.intro | decide | intro _ | exact rfl))
  · (dsimp only [AllP]; (repeat' first | exact trivial | assumption | exact Nat.le_of_ble_eq_true rfl | apply And.intro | decide | intro _ | exact rfl))
  repeat' (first | refine tr_seq ?_ | refine tr_block ?_ | refine tr_skip ?_)
  refine tr_cond rfl (fun hc => ?_) (fun hc => ?_)
  · have hc : greatB c = true := hc
    rw [if_pos hc] at hX
    have hrun := run_fn _ greatB great_fn s i (Nat.le_of_lt hi) hs
    have hrl : ((s.drop i).takeWhile greatB).length = rnL greatB s i := rfl
    have hle := rnL_le (q := greatB) (s := s) (i := i) (Nat.le_of_lt hi)
    generalize (s.drop i).takeWhile greatB = t at *
    generalize rnL greatB s i = n at *
    repeat' (first | refine tr_seq ?_ | refine tr_block ?_ | refine tr_skip ?_)
    refine tr_region (lex (T := tab) tOk hnt rfl ?_ (callH (us := []) [(900000, 900000)] [] [] rfl rfl rfl rfl (hrun) (by repeat' first | exact .nil | refine .lent rfl rfl rfl ?_ | refine .data rfl ?_) (fun _ => rfl) rfl rfl hnt rfl rfl (by repeat' first | exact trivial | rfl | apply And.intro) (by repeat' first | exact trivial | rfl | apply And.intro) (lex (T := tab) tOk hnt rfl ?_ (Lex.nil _)))) ?_
    · (dsimp only [AllP]; (repeat' first | exact trivial | assumption | exact Nat.le_of_ble_eq_true rfl | apply And.intro | exact eCells_len1 _ _ ‹_› | exact eCells_isByte _ _ ‹_› | (intro hh_; have hg_ := hh_; (try simp only [condT_ff, condF_tt, notE_t, notE_f, Bool.and_eq_true, ne_eq, decide_eq_true_eq, decide_eq_false_iff_not] at hg_)) | intro _ | exact rfl | omega))
    · (dsimp only [AllP]; (repeat' first | exact trivial | assumption | exact Nat.le_of_ble_eq_true rfl | apply And.intro | exact eCells_len1 _ _ ‹_› | exact eCells_isByte _ _ ‹_› | (intro hh_; have hg_ := hh_; (try simp only [condT_ff, condF_tt, notE_t, notE_f, Bool.and_eq_true, ne_eq, decide_eq_true_eq, decide_eq_false_iff_not] at hg_)) | intro _ | exact rfl | omega))
    refine tr_le (s' := St.of [(0, .one (.ptr 900000 0 0)), (2, .one (.ptr 2 0 0)), (6, .one (.e (eT t))), (900000, .one (.ptr 900000 0 0))] [(900000, ⟨0, .box (.es [eT s, eI ((i + n : Nat) : Int)]), 0⟩), (2, ⟨0, .box (.es (eTok tok0)), 0⟩)]) (le_of (ad := []) (by refine ⟨?_, ?_, ?_, ?_, trivial⟩ <;> first | exact trivial | rfl | exact ⟨rfl, rfl⟩ | exact ⟨rfl, rfl, rfl⟩ | exact ⟨rfl, rfl, rfl, rfl⟩ | exact ⟨rfl, rfl, rfl, rfl, rfl⟩ | exact congrArg (fun z : Int => E.v (.int .i64 z)) (wrap64_id (by omega) (by omega)) | exact congrArg (fun z : Int => E.v (.int .u8 z)) (by assumption) | exact congrArg (fun z : ByteArray => E.v (.string z)) (by assumption) | (refine ⟨rfl, ?_⟩; repeat' first | exact trivial | rfl | apply And.intro)) (memOk_box rfl rfl rfl (memOk_box rfl rfl rfl trivial))) ?_
    have lt : (strB t).size = t.length := strB_size t
    repeat' (first | refine tr_seq ?_ | refine tr_block ?_ | refine tr_skip ?_)
    first | refine reg (T := tab) tOk hnt rfl ?_ ?_ | refine regD (T := tab) tOk mixedR hnt rfl (by first | decide +kernel | kernel_rfl) ?_ ?_
    · (dsimp only [AllP]; (repeat' first | exact trivial | assumption | exact Nat.le_of_ble_eq_true rfl | apply And.intro | decide | intro _ | exact rfl))
    rw [lt]
    repeat' (first | refine tr_seq ?_ | refine tr_block ?_ | refine tr_skip ?_)
    refine tr_cond rfl (fun hc => ?_) (fun hc => ?_)
    · simp only [condT_tt, condT_ff, condF_tt, condF_ff, notE_t, notE_f, decide_eq_true_eq, decide_eq_false_iff_not] at hc
      rw [if_pos (by omega)] at hX
      cases hX
      repeat' (first | refine tr_seq ?_ | refine reg (T := tab) tOk hnt rfl ?_ ?_ | refine regD (T := tab) tOk mixedR hnt rfl (by first | decide +kernel | kernel_rfl) ?_ ?_ | refine tr_block ?_ | refine tr_skip ?_)
      · (dsimp only [AllP]; (repeat' first | exact trivial | assumption | exact Nat.le_of_ble_eq_true rfl | apply And.intro | decide | intro _ | exact rfl))
      exact tr_ret ⟨.inr rfl, _, _, _, rfl, by (repeat' first | exact trivial | exact Nat.le_of_ble_eq_true rfl | apply And.intro), rfl, fun X => le_of (ad := []) ⟨⟨⟨rfl, rfl⟩, ⟨rfl, rfl⟩, trivial⟩, ⟨rfl, rfl, rfl, rfl, rfl⟩, trivial⟩ (memOk_box rfl rfl rfl trivial)⟩
    simp only [condT_tt, condT_ff, condF_tt, condF_ff, notE_t, notE_f, decide_eq_true_eq, decide_eq_false_iff_not] at hc
    rw [if_neg (by omega)] at hX
    cases hX
    repeat' (first | refine tr_seq ?_ | refine reg (T := tab) tOk hnt rfl ?_ ?_ | refine regD (T := tab) tOk mixedR hnt rfl (by first | decide +kernel | kernel_rfl) ?_ ?_ | refine tr_block ?_ | refine tr_skip ?_)
    · (dsimp only [AllP]; (repeat' first | exact trivial | assumption | exact Nat.le_of_ble_eq_true rfl | apply And.intro | decide | intro _ | exact rfl))
    exact tr_ret ⟨.inr rfl, _, _, _, rfl, by (repeat' first | exact trivial | exact Nat.le_of_ble_eq_true rfl | apply And.intro), rfl, fun X => le_of (ad := []) ⟨⟨⟨rfl, rfl⟩, ⟨rfl, rfl⟩, trivial⟩, ⟨rfl, rfl, rfl, rfl, rfl⟩, trivial⟩ (memOk_box rfl rfl rfl trivial)⟩
  have hc : greatB c = false := hc
  rw [if_neg (by rw [hc]; exact Bool.false_ne_true)] at hX
  repeat' (first | refine tr_seq ?_ | refine tr_block ?_ | refine tr_skip ?_)
  refine tr_region (lex (T := tab) tOk hnt rfl ?_ (call rfl rfl rfl rfl rfl rfl rfl hnt ((digit_fn c)) (lex (T := tab) tOk hnt rfl ?_ (Lex.nil _)))) ?_
  · (dsimp only [AllP]; (repeat' first | exact trivial | assumption | exact Nat.le_of_ble_eq_true rfl | apply And.intro | decide | intro _ | exact rfl))
  · (dsimp only [AllP]; (repeat' first | exact trivial | assumption | exact Nat.le_of_ble_eq_true rfl | apply And.intro | decide | intro _ | exact rfl))
  repeat' (first | refine tr_seq ?_ | refine tr_block ?_ | refine tr_skip ?_)
  refine tr_cond rfl (fun hc => ?_) (fun hc => ?_)
  · have hc : digitB c = true := hc
    rw [if_pos hc] at hX
    have hnum := number_fn s i (Nat.le_of_lt hi) hs
    cases hX
    repeat' (first | refine tr_seq ?_ | refine tr_block ?_ | refine tr_skip ?_)
    refine tr_region (lex (T := tab) tOk hnt rfl ?_ (callH (us := []) [(900000, 900000)] [] [] rfl rfl rfl rfl (hnum) (by repeat' first | exact .nil | refine .lent rfl rfl rfl ?_ | refine .data rfl ?_) (fun _ => rfl) rfl rfl hnt rfl rfl (by repeat' first | exact trivial | rfl | apply And.intro) (by repeat' first | exact trivial | rfl | apply And.intro) (lex (T := tab) tOk hnt rfl ?_ (Lex.nil _)))) ?_
    · (dsimp only [AllP]; (repeat' first | exact trivial | assumption | exact Nat.le_of_ble_eq_true rfl | apply And.intro | exact eCells_len1 _ _ ‹_› | exact eCells_isByte _ _ ‹_› | (intro hh_; have hg_ := hh_; (try simp only [condT_ff, condF_tt, notE_t, notE_f, Bool.and_eq_true, ne_eq, decide_eq_true_eq, decide_eq_false_iff_not] at hg_)) | intro _ | exact rfl | omega))
    · (dsimp only [AllP]; (repeat' first | exact trivial | assumption | exact Nat.le_of_ble_eq_true rfl | apply And.intro | exact eCells_len1 _ _ ‹_› | exact eCells_isByte _ _ ‹_› | (intro hh_; have hg_ := hh_; (try simp only [condT_ff, condF_tt, notE_t, notE_f, Bool.and_eq_true, ne_eq, decide_eq_true_eq, decide_eq_false_iff_not] at hg_)) | intro _ | exact rfl | omega))
    exact tr_ret ⟨.inr rfl, _, _, _, rfl, by (repeat' first | exact trivial | exact Nat.le_of_ble_eq_true rfl | apply And.intro), rfl, fun X => le_of (ad := []) ⟨⟨⟨rfl, rfl⟩, ⟨rfl, rfl⟩, trivial⟩, ⟨rfl, rfl, rfl, rfl, rfl⟩, trivial⟩ (memOk_box rfl rfl rfl trivial)⟩
  have hc : digitB c = false := hc
  rw [if_neg (by rw [hc]; exact Bool.false_ne_true)] at hX
  repeat' (first | refine tr_seq ?_ | refine reg (T := tab) tOk hnt rfl ?_ ?_ | refine regD (T := tab) tOk mixedR hnt rfl (by first | decide +kernel | kernel_rfl) ?_ ?_ | refine tr_block ?_ | refine tr_skip ?_)
  · (dsimp only [AllP]; (repeat' first | exact trivial | assumption | exact Nat.le_of_ble_eq_true rfl | apply And.intro | decide | intro _ | exact rfl))
  repeat' (first | refine tr_seq ?_ | refine tr_block ?_ | refine tr_skip ?_)
  refine tr_cond rfl (fun hc => ?_) (fun hc => ?_)
  · simp only [condT_tt, condT_ff, condF_tt, condF_ff, notE_t, notE_f, decide_eq_true_eq, decide_eq_false_iff_not] at hc
    rw [if_pos (by omega)] at hX
    have hq := quote_fn s i hi hs
    cases hX
    repeat' (first | refine tr_seq ?_ | refine tr_block ?_ | refine tr_skip ?_)
    refine tr_region (lex (T := tab) tOk hnt rfl ?_ (callH (us := []) [(900000, 900000)] [] [] rfl rfl rfl rfl (hq) (by repeat' first | exact .nil | refine .lent rfl rfl rfl ?_ | refine .data rfl ?_) (fun _ => rfl) rfl rfl hnt rfl rfl (by repeat' first | exact trivial | rfl | apply And.intro) (by repeat' first | exact trivial | rfl | apply And.intro) (lex (T := tab) tOk hnt rfl ?_ (Lex.nil _)))) ?_
    · (dsimp only [AllP]; (repeat' first | exact trivial | assumption | exact Nat.le_of_ble_eq_true rfl | apply And.intro | exact eCells_len1 _ _ ‹_› | exact eCells_isByte _ _ ‹_› | (intro hh_; have hg_ := hh_; (try simp only [condT_ff, condF_tt, notE_t, notE_f, Bool.and_eq_true, ne_eq, decide_eq_true_eq, decide_eq_false_iff_not] at hg_)) | intro _ | exact rfl | omega))
    · (dsimp only [AllP]; (repeat' first | exact trivial | assumption | exact Nat.le_of_ble_eq_true rfl | apply And.intro | exact eCells_len1 _ _ ‹_› | exact eCells_isByte _ _ ‹_› | (intro hh_; have hg_ := hh_; (try simp only [condT_ff, condF_tt, notE_t, notE_f, Bool.and_eq_true, ne_eq, decide_eq_true_eq, decide_eq_false_iff_not] at hg_)) | intro _ | exact rfl | omega))
    exact tr_ret ⟨.inr rfl, _, _, _, rfl, by (repeat' first | exact trivial | exact Nat.le_of_ble_eq_true rfl | apply And.intro), rfl, fun X => le_of (ad := []) ⟨⟨⟨rfl, rfl⟩, ⟨rfl, rfl⟩, trivial⟩, ⟨rfl, rfl, rfl, rfl, rfl⟩, trivial⟩ (memOk_box rfl rfl rfl trivial)⟩
  simp only [condT_tt, condT_ff, condF_tt, condF_ff, notE_t, notE_f, decide_eq_true_eq, decide_eq_false_iff_not] at hc
  rw [if_neg (by omega)] at hX
  repeat' (first | refine tr_seq ?_ | refine reg (T := tab) tOk hnt rfl ?_ ?_ | refine regD (T := tab) tOk mixedR hnt rfl (by first | decide +kernel | kernel_rfl) ?_ ?_ | refine tr_block ?_ | refine tr_skip ?_)
  · (dsimp only [AllP]; (repeat' first | exact trivial | assumption | exact Nat.le_of_ble_eq_true rfl | apply And.intro | decide | intro _ | exact rfl))
  repeat' (first | refine tr_seq ?_ | refine tr_block ?_ | refine tr_skip ?_)
  refine tr_cond rfl (fun hc => ?_) (fun hc => ?_)
  · simp only [condT_tt, condT_ff, condF_tt, condF_ff, notE_t, notE_f, decide_eq_true_eq, decide_eq_false_iff_not] at hc
    rw [if_pos (by omega)] at hX
    have hx := hex_fn s i hi hs
    cases hX
    repeat' (first | refine tr_seq ?_ | refine tr_block ?_ | refine tr_skip ?_)
    refine tr_region (lex (T := tab) tOk hnt rfl ?_ (callH (us := []) [(900000, 900000)] [] [] rfl rfl rfl rfl (hx) (by repeat' first | exact .nil | refine .lent rfl rfl rfl ?_ | refine .data rfl ?_) (fun _ => rfl) rfl rfl hnt rfl rfl (by repeat' first | exact trivial | rfl | apply And.intro) (by repeat' first | exact trivial | rfl | apply And.intro) (lex (T := tab) tOk hnt rfl ?_ (Lex.nil _)))) ?_
    · (dsimp only [AllP]; (repeat' first | exact trivial | assumption | exact Nat.le_of_ble_eq_true rfl | apply And.intro | exact eCells_len1 _ _ ‹_› | exact eCells_isByte _ _ ‹_› | (intro hh_; have hg_ := hh_; (try simp only [condT_ff, condF_tt, notE_t, notE_f, Bool.and_eq_true, ne_eq, decide_eq_true_eq, decide_eq_false_iff_not] at hg_)) | intro _ | exact rfl | omega))
    · (dsimp only [AllP]; (repeat' first | exact trivial | assumption | exact Nat.le_of_ble_eq_true rfl | apply And.intro | exact eCells_len1 _ _ ‹_› | exact eCells_isByte _ _ ‹_› | (intro hh_; have hg_ := hh_; (try simp only [condT_ff, condF_tt, notE_t, notE_f, Bool.and_eq_true, ne_eq, decide_eq_true_eq, decide_eq_false_iff_not] at hg_)) | intro _ | exact rfl | omega))
    exact tr_ret ⟨.inr rfl, _, _, _, rfl, by (repeat' first | exact trivial | exact Nat.le_of_ble_eq_true rfl | apply And.intro), rfl, fun X => le_of (ad := []) ⟨⟨⟨rfl, rfl⟩, ⟨rfl, rfl⟩, trivial⟩, ⟨rfl, rfl, rfl, rfl, rfl⟩, trivial⟩ (memOk_box rfl rfl rfl trivial)⟩
  simp only [condT_tt, condT_ff, condF_tt, condF_ff, notE_t, notE_f, decide_eq_true_eq, decide_eq_false_iff_not] at hc
  rw [if_neg (by omega)] at hX
  have hg := signS_fn s i (Nat.le_of_lt hi) hs
  cases hX
  repeat' (first | refine tr_seq ?_ | refine tr_block ?_ | refine tr_skip ?_)
  refine tr_region (lex (T := tab) tOk hnt rfl ?_ (callH (us := []) [(900000, 900000)] [] [] rfl rfl rfl rfl (hg) (by repeat' first | exact .nil | refine .lent rfl rfl rfl ?_ | refine .data rfl ?_) (fun _ => rfl) rfl rfl hnt rfl rfl (by repeat' first | exact trivial | rfl | apply And.intro) (by repeat' first | exact trivial | rfl | apply And.intro) (lex (T := tab) tOk hnt rfl ?_ (Lex.nil _)))) ?_
  · (dsimp only [AllP]; (repeat' first | exact trivial | assumption | exact Nat.le_of_ble_eq_true rfl | apply And.intro | exact eCells_len1 _ _ ‹_› | exact eCells_isByte _ _ ‹_› | (intro hh_; have hg_ := hh_; (try simp only [condT_ff, condF_tt, notE_t, notE_f, Bool.and_eq_true, ne_eq, decide_eq_true_eq, decide_eq_false_iff_not] at hg_)) | intro _ | exact rfl | omega))
  · (dsimp only [AllP]; (repeat' first | exact trivial | assumption | exact Nat.le_of_ble_eq_true rfl | apply And.intro | exact eCells_len1 _ _ ‹_› | exact eCells_isByte _ _ ‹_› | (intro hh_; have hg_ := hh_; (try simp only [condT_ff, condF_tt, notE_t, notE_f, Bool.and_eq_true, ne_eq, decide_eq_true_eq, decide_eq_false_iff_not] at hg_)) | intro _ | exact rfl | omega))
  exact tr_ret ⟨.inr rfl, _, _, _, rfl, by (repeat' first | exact trivial | exact Nat.le_of_ble_eq_true rfl | apply And.intro), rfl, fun X => le_of (ad := []) ⟨⟨⟨rfl, rfl⟩, ⟨rfl, rfl⟩, trivial⟩, ⟨rfl, rfl, rfl, rfl, rfl⟩, trivial⟩ (memOk_box rfl rfl rfl trivial)⟩
end Go.Proofs.YtphaholcndhonaaDoor
namespace Go.Proofs.YtphaholcndhonaaDoor
open Go Go.RowKit Go.Proofs.YtphaholcndhonaaDoor.Ab
set_option linter.unusedSimpArgs false
set_option linter.unusedVariables false

theorem blA_le (s : Byt) (i : Nat) : blA s i ≤ s.length := Nat.sub_le _ _
theorem tkX_le {s : Byt} {i : Nat} (hi : i < s.length) : (tkX s i).2.2 ≤ s.length := by
  have h1 := rnL_le (q := nameB) (s := s) (i := i) (Nat.le_of_lt hi)
  have h2 := rnL_le (q := greatB) (s := s) (i := i) (Nat.le_of_lt hi)
  have h3 := rnL_le (q := digitB) (s := s) (i := i) (Nat.le_of_lt hi)
  unfold tkX
  split
  · split <;> exact h1
  split
  · split <;> exact h2
  split
  · exact h3
  split
  · show quA s i ≤ s.length
    unfold quA
    cases hq : qsL (s.drop (i + 1)) with
    | none => exact Nat.le_refl _
    | some z =>
      have := (qsL_len _ z hq).1
      rw [List.length_drop] at this
      show i + 1 + z.2 ≤ s.length
      omega
  split
  · have := hxL_len 16 (s.drop (i + 1)) 0
    rw [List.length_drop] at this
    show i + 1 + (hxL 16 (s.drop (i + 1)) 0).2.2 ≤ s.length
    omega
  · show i + sgN (s.drop i) ≤ s.length
    unfold sgN
    rw [List.length_drop]
    split
    · omega
    · split <;> omega
/-- tokens of a text, from a place on -/
def ctL (s : Byt) : Nat → Nat → List Tok → List Tok × Int × Int
  | 0, _, out => (out, 0, 0)
  | f + 1, j, out => if j < s.length then (if out.length = 100 then ([], (j : Int), 1) else if (tkX s j).2.1 ≠ 0 then ([], (j : Int), (tkX s j).2.1) else ctL s f (blA s (tkX s j).2.2) (out ++ [(tkX s j).1])) else (out, 0, 0)
def cutF (s : Byt) : List Tok × Int × Int := if 300 < s.length then ([], 0, 1) else ctL s 101 (blA s 0) []
def eTks (l : List Tok) : E := .sl (l.map eTok)
def rCt (x : List Tok × Int × Int) : D := .tup [(false, .ds [.own 3000 0]), (false, .es [eI x.2.1]), (false, .es [eI x.2.2])]
def msT (l : List Tok) : List (Nat × Blk) := [(3000, ⟨0, .row 4 (l.map eTok), 0⟩)]
set_option maxRecDepth 10000 in
set_option maxHeartbeats 2000000 in
theorem Cut_fn (s : Byt) (hm : s.length ≤ maxLen) : FnH Tryd.prog 16 ((gK)) ([]) [.one (.e (eT s))] (rCt (cutF s)) (msT (cutF s).1) := by
  refine fn_introH (T := tab) tOk Tryd.func16 rfl (by kernel_rfl) (by simp [Tryd.ntmps16]) rfl rfl ?_
  intro X hX
  have hnt : X.nt = 49 := hX
  clear hX
  have ls : (strB s).size = s.length := strB_size s
  repeat' (first | refine tr_seq ?_ | refine tr_block ?_ | refine tr_skip ?_)
  first | refine reg (T := tab) tOk hnt rfl ?_ ?_ | refine regD (T := tab) tOk mixedR hnt rfl (by first | decide +kernel | kernel_rfl) ?_ ?_
  · (dsimp only [AllP]; (repeat' first | exact trivial | assumption | exact Nat.le_of_ble_eq_true rfl | apply And.intro | decide | intro _ | exact rfl))
  repeat' (first | refine tr_seq ?_ | refine tr_block ?_ | refine tr_skip ?_)
  first | refine reg (T := tab) tOk hnt rfl ?_ ?_ | refine regD (T := tab) tOk mixedR hnt rfl (by first | decide +kernel | kernel_rfl) ?_ ?_
  · (dsimp only [AllP]; (repeat' first | exact trivial | assumption | exact Nat.le_of_ble_eq_true rfl | apply And.intro | decide | intro _ | exact rfl))
  rw [ls]
  repeat' (first | refine tr_seq ?_ | refine tr_block ?_ | refine tr_skip ?_)
  refine tr_cond rfl (fun hc => ?_) (fun hc => ?_)
  · simp only [condT_tt, condT_ff, condF_tt, condF_ff, notE_t, notE_f, decide_eq_true_eq, decide_eq_false_iff_not] at hc
    rw [show cutF s = ([], 0, 1) by unfold cutF; rw [if_pos (by omega)]]
    repeat' (first | refine tr_seq ?_ | refine reg (T := tab) tOk hnt rfl ?_ ?_ | refine regD (T := tab) tOk mixedR hnt rfl (by first | decide +kernel | kernel_rfl) ?_ ?_ | refine tr_block ?_ | refine tr_skip ?_)
    · (dsimp only [AllP]; (repeat' first | exact trivial | assumption | exact Nat.le_of_ble_eq_true rfl | apply And.intro | decide | intro _ | exact rfl))
    exact tr_ret ⟨.inr rfl, _, _, _, rfl, by (repeat' first | exact trivial | exact Nat.le_of_ble_eq_true rfl | apply And.intro), rfl, fun X => le_of (ad := [3000]) ⟨⟨⟨rfl, ⟨⟨rfl, rfl⟩, trivial⟩⟩, ⟨rfl, rfl⟩, ⟨rfl, rfl⟩, trivial⟩, trivial⟩ (memOk_new rfl (by decide) trivial)⟩
  simp only [condT_tt, condT_ff, condF_tt, condF_ff, notE_t, notE_f, decide_eq_true_eq, decide_eq_false_iff_not] at hc
  have hs : s.length ≤ 300 := by omega
  have hC : cutF s = ctL s 101 (blA s 0) [] := by unfold cutF; rw [if_neg (by omega)]
  repeat' (first | refine tr_seq ?_ | refine tr_block ?_ | refine tr_skip ?_)
  first | refine reg (T := tab) tOk hnt rfl ?_ ?_ | refine regD (T := tab) tOk mixedR hnt rfl (by first | decide +kernel | kernel_rfl) ?_ ?_
  · (dsimp only [AllP]; (repeat' first | exact trivial | assumption | exact Nat.le_of_ble_eq_true rfl | apply And.intro | decide | intro _ | exact rfl))
  repeat' (first | refine tr_seq ?_ | refine tr_block ?_ | refine tr_skip ?_)
  first | refine reg (T := tab) tOk hnt rfl ?_ ?_ | refine regD (T := tab) tOk mixedR hnt rfl (by first | decide +kernel | kernel_rfl) ?_ ?_
  · (dsimp only [AllP]; (repeat' first | exact trivial | assumption | exact Nat.le_of_ble_eq_true rfl | apply And.intro | decide | intro _ | exact rfl))
  have hb0 := blanks_fn s 0 (Nat.zero_le _) hs
  have hb0 : FnH Tryd.prog 44 [] [(900000, ⟨0, .box (.es [eT s, eI ((0 : Nat) : Int)]), 0⟩)] [.one (.ptr 900000 0 0)] (.tup []) (msS s (blA s 0)) := hb0
  repeat' (first | refine tr_seq ?_ | refine tr_block ?_ | refine tr_skip ?_)
  refine tr_region (lex (T := tab) tOk hnt rfl ?_ (callH (us := []) [(900000, 15)] [] [] rfl rfl rfl rfl (hb0) (by repeat' first | exact .nil | refine .lent rfl rfl rfl ?_ | refine .data rfl ?_) (fun _ => rfl) rfl rfl hnt rfl rfl (by repeat' first | exact trivial | rfl | apply And.intro) (by repeat' first | exact trivial | rfl | apply And.intro) (lex (T := tab) tOk hnt rfl ?_ (Lex.nil _)))) ?_
  · (dsimp only [AllP]; (repeat' first | exact trivial | assumption | exact Nat.le_of_ble_eq_true rfl | apply And.intro | decide | intro _ | exact rfl))
  · (dsimp only [AllP]; (repeat' first | exact trivial | assumption | exact Nat.le_of_ble_eq_true rfl | apply And.intro | decide | intro _ | exact rfl))
  repeat' (first | refine tr_seq ?_ | refine tr_block ?_ | refine tr_skip ?_)
  refine tr_loop (σ := Nat × Nat × List Tok) (fun x => St.of [(0, .one (.e (eT s))), (5, .one (.ptr 15 0 0)), (6, .one (.own 3001 0)), ((1000000 + 0), .one (.eptr fsE)), ((1000000 + 1), .one (.eptr acE))] [(15, ⟨0, .box (.es [eT s, eI (x.2.1 : Int)]), 0⟩), (3001, ⟨0, .row 4 (x.2.2.map eTok), 0⟩)]) (fun x => x.1 + x.2.2.length = 101 ∧ x.2.2.length ≤ 100 ∧ x.2.1 ≤ s.length ∧ ctL s x.1 x.2.1 x.2.2 = cutF s) (fun x => 100 - x.2.2.length) ((101, blA s 0, [])) (le_of (ad := [3001]) (by refine ⟨?_, ?_, ?_, ?_, ?_, trivial⟩ <;> first | exact trivial | rfl | exact ⟨rfl, rfl⟩ | exact ⟨rfl, rfl, rfl⟩ | exact ⟨rfl, rfl, rfl, rfl⟩ | exact ⟨rfl, rfl, rfl, rfl, rfl⟩ | exact congrArg (fun z : Int => E.v (.int .i64 z)) (wrap64_id (by omega) (by omega)) | exact congrArg (fun z : Int => E.v (.int .u8 z)) (by assumption) | exact congrArg (fun z : ByteArray => E.v (.string z)) (by assumption) | (refine ⟨rfl, ?_⟩; repeat' first | exact trivial | rfl | apply And.intro)) (memOk_box rfl rfl rfl (memOk_new rfl (by decide) trivial))) ⟨rfl, Nat.zero_le _, blA_le s 0, hC.symm⟩ ?_
  rintro ⟨f, j, out⟩ ⟨hf, ho, jl, hJ⟩
  dsimp only at hf ho jl hJ ⊢
  obtain ⟨f, rfl⟩ : ∃ g, f = g + 1 := ⟨f - 1, by omega⟩
  rw [ctL] at hJ
  have lo : (out.map eTok).length = out.length := List.length_map ..
  repeat' (first | refine tr_seq ?_ | refine tr_block ?_ | refine tr_skip ?_)
  first | refine reg (T := tab) tOk hnt rfl ?_ ?_ | refine regD (T := tab) tOk mixedR hnt rfl (by first | decide +kernel | kernel_rfl) ?_ ?_
  · simp only [sc0, sc1, strB_size]
    (dsimp only [AllP]; (repeat' first | exact trivial | assumption | exact Nat.le_of_ble_eq_true rfl | apply And.intro | exact eCells_len1 _ _ ‹_› | exact eCells_isByte _ _ ‹_› | (intro hh_; have hg_ := hh_; (try simp only [condT_ff, condF_tt, notE_t, notE_f, Bool.and_eq_true, ne_eq, decide_eq_true_eq, decide_eq_false_iff_not] at hg_)) | intro _ | exact rfl | omega))
  repeat' (first | refine tr_seq ?_ | refine tr_block ?_ | refine tr_skip ?_)
  refine tr_cond rfl (fun hc => ?_) (fun hc => ?_)
  · have hc : (j : Int) < (((strB s).size : Nat) : Int) := of_decide_eq_true hc
    have hlt : j < s.length := by omega
    rw [if_pos hlt] at hJ
    repeat' (first | refine tr_seq ?_ | refine tr_block ?_ | refine tr_skip ?_)
    first | refine reg (T := tab) tOk hnt rfl ?_ ?_ | refine regD (T := tab) tOk mixedR hnt rfl (by first | decide +kernel | kernel_rfl) ?_ ?_
    · simp only [sc0, sc1, strB_size]
      (dsimp only [AllP]; (repeat' first | exact trivial | assumption | exact Nat.le_of_ble_eq_true rfl | apply And.intro | exact eCells_len1 _ _ ‹_› | exact eCells_isByte _ _ ‹_› | (intro hh_; have hg_ := hh_; (try simp only [condT_ff, condF_tt, notE_t, notE_f, Bool.and_eq_true, ne_eq, decide_eq_true_eq, decide_eq_false_iff_not] at hg_)) | intro _ | exact rfl | omega))
    repeat' (first | refine tr_seq ?_ | refine tr_block ?_ | refine tr_skip ?_)
    first | refine reg (T := tab) tOk hnt rfl ?_ ?_ | refine regD (T := tab) tOk mixedR hnt rfl (by first | decide +kernel | kernel_rfl) ?_ ?_
    · (dsimp only [AllP]; (repeat' first | exact trivial | assumption | exact Nat.le_of_ble_eq_true rfl | apply And.intro | decide | intro _ | exact rfl))
    rw [lo]
    repeat' (first | refine tr_seq ?_ | refine tr_block ?_ | refine tr_skip ?_)
    refine tr_cond rfl (fun hc => ?_) (fun hc => ?_)
    · simp only [condT_tt, condT_ff, condF_tt, condF_ff, notE_t, notE_f, decide_eq_true_eq, decide_eq_false_iff_not] at hc
      rw [if_pos (by omega)] at hJ
      rw [← hJ]
      repeat' (first | refine tr_seq ?_ | refine reg (T := tab) tOk hnt rfl ?_ ?_ | refine regD (T := tab) tOk mixedR hnt rfl (by first | decide +kernel | kernel_rfl) ?_ ?_ | refine tr_block ?_ | refine tr_skip ?_)
      · (dsimp only [AllP]; (repeat' first | exact trivial | assumption | exact Nat.le_of_ble_eq_true rfl | apply And.intro | decide | intro _ | exact rfl))
      exact tr_ret ⟨.inr rfl, _, _, _, rfl, by (repeat' first | exact trivial | exact Nat.le_of_ble_eq_true rfl | apply And.intro), rfl, fun X => le_of (ad := [3000]) ⟨⟨⟨rfl, ⟨⟨rfl, rfl⟩, trivial⟩⟩, ⟨rfl, rfl⟩, ⟨rfl, rfl⟩, trivial⟩, trivial⟩ (memOk_new rfl (by decide) trivial)⟩
    simp only [condT_tt, condT_ff, condF_tt, condF_ff, notE_t, notE_f, decide_eq_true_eq, decide_eq_false_iff_not] at hc
    rw [if_neg (by omega)] at hJ
    have htk := token_fn s j hlt hs
    have htl := tkX_le hlt
    generalize tkX s j = Z at *
    obtain ⟨tk, te, ta⟩ := Z
    dsimp only at htk htl hJ
    repeat' (first | refine tr_seq ?_ | refine tr_block ?_ | refine tr_skip ?_)
    refine tr_region (lex (T := tab) tOk hnt rfl ?_ (callH (us := []) [(900000, 15)] [] [] rfl rfl rfl rfl (htk) (by repeat' first | exact .nil | refine .lent rfl rfl rfl ?_ | refine .data rfl ?_) (fun _ => rfl) rfl rfl hnt rfl rfl (by repeat' first | exact trivial | rfl | apply And.intro) (by repeat' first | exact trivial | rfl | apply And.intro) (lex (T := tab) tOk hnt rfl ?_ (Lex.nil _)))) ?_
    · (dsimp only [AllP]; (repeat' first | exact trivial | assumption | exact Nat.le_of_ble_eq_true rfl | apply And.intro | exact eCells_len1 _ _ ‹_› | exact eCells_isByte _ _ ‹_› | (intro hh_; have hg_ := hh_; (try simp only [condT_ff, condF_tt, notE_t, notE_f, Bool.and_eq_true, ne_eq, decide_eq_true_eq, decide_eq_false_iff_not] at hg_)) | intro _ | exact rfl | omega))
    · (dsimp only [AllP]; (repeat' first | exact trivial | assumption | exact Nat.le_of_ble_eq_true rfl | apply And.intro | exact eCells_len1 _ _ ‹_› | exact eCells_isByte _ _ ‹_› | (intro hh_; have hg_ := hh_; (try simp only [condT_ff, condF_tt, notE_t, notE_f, Bool.and_eq_true, ne_eq, decide_eq_true_eq, decide_eq_false_iff_not] at hg_)) | intro _ | exact rfl | omega))
    refine tr_le (s' := St.of [(0, .one (.e (eT s))), (5, .one (.ptr 15 0 0)), (6, .one (.own 3001 0)), (7, .one (.e (eI (j : Int)))), (8, .one (.ptr 8 0 0)), (9, .one (.e (eI te))), ((1000000 + 0), .one (.eptr fsE)), ((1000000 + 1), .one (.eptr acE))] [(15, ⟨0, .box (.es [eT s, eI (ta : Int)]), 0⟩), (8, ⟨0, .box (.es (eTok tk)), 0⟩), (3001, ⟨0, .row 4 (out.map eTok), 0⟩)]) (le_of (ad := []) (by refine ⟨?_, ?_, ?_, ?_, ?_, ?_, ?_, ?_, trivial⟩ <;> first | exact trivial | rfl | exact ⟨rfl, rfl⟩ | exact ⟨rfl, rfl, rfl⟩ | exact ⟨rfl, rfl, rfl, rfl⟩ | exact ⟨rfl, rfl, rfl, rfl, rfl⟩ | exact congrArg (fun z : Int => E.v (.int .i64 z)) (wrap64_id (by omega) (by omega)) | exact congrArg (fun z : Int => E.v (.int .u8 z)) (by assumption) | exact congrArg (fun z : ByteArray => E.v (.string z)) (by assumption) | (refine ⟨rfl, ?_⟩; repeat' first | exact trivial | rfl | apply And.intro)) (memOk_box rfl rfl rfl (memOk_box rfl rfl rfl (memOk_row rfl rfl rfl trivial)))) ?_
    repeat' (first | refine tr_seq ?_ | refine tr_block ?_ | refine tr_skip ?_)
    first | refine reg (T := tab) tOk hnt rfl ?_ ?_ | refine regD (T := tab) tOk mixedR hnt rfl (by first | decide +kernel | kernel_rfl) ?_ ?_
    · (dsimp only [AllP]; (repeat' first | exact trivial | assumption | exact Nat.le_of_ble_eq_true rfl | apply And.intro | decide | intro _ | exact rfl))
    repeat' (first | refine tr_seq ?_ | refine tr_block ?_ | refine tr_skip ?_)
    refine tr_cond rfl (fun hc => ?_) (fun hc => ?_)
    · simp only [condT_tt, condT_ff, condF_tt, condF_ff, notE_t, notE_f, decide_eq_true_eq, decide_eq_false_iff_not] at hc
      rw [if_pos hc] at hJ
      rw [← hJ]
      repeat' (first | refine tr_seq ?_ | refine reg (T := tab) tOk hnt rfl ?_ ?_ | refine regD (T := tab) tOk mixedR hnt rfl (by first | decide +kernel | kernel_rfl) ?_ ?_ | refine tr_block ?_ | refine tr_skip ?_)
      · (dsimp only [AllP]; (repeat' first | exact trivial | assumption | exact Nat.le_of_ble_eq_true rfl | apply And.intro | decide | intro _ | exact rfl))
      exact tr_ret ⟨.inr rfl, _, _, _, rfl, by (repeat' first | exact trivial | exact Nat.le_of_ble_eq_true rfl | apply And.intro), rfl, fun X => le_of (ad := [3000]) ⟨⟨⟨rfl, ⟨⟨rfl, rfl⟩, trivial⟩⟩, ⟨rfl, rfl⟩, ⟨rfl, rfl⟩, trivial⟩, trivial⟩ (memOk_new rfl (by decide) trivial)⟩
    simp only [condT_tt, condT_ff, condF_tt, condF_ff, notE_t, notE_f, decide_eq_true_eq, decide_eq_false_iff_not] at hc
    rw [if_neg (not_not_intro hc)] at hJ
    have hq1 : (out.map eTok).length + 1 ≤ maxLen := by rw [lo]; simp only [maxLen]; omega
    have hq2 : ((out.map eTok).length + 1) * 40 ≤ 140737488355328 := by rw [lo]; omega
    repeat' (first | refine tr_seq ?_ | refine tr_block ?_ | refine tr_skip ?_)
    first | refine reg (T := tab) tOk hnt rfl ?_ ?_ | refine regD (T := tab) tOk mixedR hnt rfl (by first | decide +kernel | kernel_rfl) ?_ ?_
    · (dsimp only [AllP]; (repeat' first | exact trivial | assumption | exact Nat.le_of_ble_eq_true rfl | apply And.intro | exact eCells_len1 _ _ ‹_› | exact eCells_isByte _ _ ‹_› | (intro hh_; have hg_ := hh_; (try simp only [condT_ff, condF_tt, notE_t, notE_f, Bool.and_eq_true, ne_eq, decide_eq_true_eq, decide_eq_false_iff_not] at hg_)) | intro _ | exact rfl | omega))
    have hbl := blanks_fn s ta htl hs
    repeat' (first | refine tr_seq ?_ | refine tr_block ?_ | refine tr_skip ?_)
    refine tr_region (lex (T := tab) tOk hnt rfl ?_ (callH (us := []) [(900000, 15)] [] [] rfl rfl rfl rfl (hbl) (by repeat' first | exact .nil | refine .lent rfl rfl rfl ?_ | refine .data rfl ?_) (fun _ => rfl) rfl rfl hnt rfl rfl (by repeat' first | exact trivial | rfl | apply And.intro) (by repeat' first | exact trivial | rfl | apply And.intro) (lex (T := tab) tOk hnt rfl ?_ (Lex.nil _)))) ?_
    · (dsimp only [AllP]; (repeat' first | exact trivial | assumption | exact Nat.le_of_ble_eq_true rfl | apply And.intro | exact eCells_len1 _ _ ‹_› | exact eCells_isByte _ _ ‹_› | (intro hh_; have hg_ := hh_; (try simp only [condT_ff, condF_tt, notE_t, notE_f, Bool.and_eq_true, ne_eq, decide_eq_true_eq, decide_eq_false_iff_not] at hg_)) | intro _ | exact rfl | omega))
    · (dsimp only [AllP]; (repeat' first | exact trivial | assumption | exact Nat.le_of_ble_eq_true rfl | apply And.intro | exact eCells_len1 _ _ ‹_› | exact eCells_isByte _ _ ‹_› | (intro hh_; have hg_ := hh_; (try simp only [condT_ff, condF_tt, notE_t, notE_f, Bool.and_eq_true, ne_eq, decide_eq_true_eq, decide_eq_false_iff_not] at hg_)) | intro _ | exact rfl | omega))
    repeat' (first | refine tr_seq ?_ | refine tr_block ?_ | refine tr_skip ?_)
    refine ⟨(f, blA s ta, out ++ [tk]), ⟨by dsimp only; rw [List.length_append]; show f + (out.length + 1) = 101; omega, by dsimp only; rw [List.length_append]; show out.length + 1 ≤ 100; omega, blA_le s ta, hJ⟩, by dsimp only; rw [List.length_append]; show 100 - (out.length + 1) < _; omega, le_of (ad := []) ⟨rfl, ⟨rfl, rfl, rfl, rfl, rfl⟩, ⟨rfl, rfl, rfl, rfl⟩, rfl, rfl, trivial⟩ (memOk_box rfl rfl rfl (memOk_row rfl rfl (by rw [List.map_append]; rfl) trivial))⟩
  have hc : ¬ (j : Int) < (((strB s).size : Nat) : Int) := of_decide_eq_false hc
  rw [if_neg (by omega)] at hJ
  rw [← hJ]
  refine tr_exit ?_
  repeat' (first | refine tr_seq ?_ | refine reg (T := tab) tOk hnt rfl ?_ ?_ | refine regD (T := tab) tOk mixedR hnt rfl (by first | decide +kernel | kernel_rfl) ?_ ?_ | refine tr_block ?_ | refine tr_skip ?_)
  · (dsimp only [AllP]; (repeat' first | exact trivial | assumption | exact Nat.le_of_ble_eq_true rfl | apply And.intro | decide | intro _ | exact rfl))
  refine tr_le (le_rn 3001 3000 rfl rfl) ?_
  exact tr_ret ⟨.inr rfl, _, _, _, rfl, by (repeat' first | exact trivial | exact Nat.le_of_ble_eq_true rfl | apply And.intro), rfl, fun X => le_of (ad := []) ⟨⟨⟨rfl, ⟨⟨rfl, rfl, rfl, rfl⟩, trivial⟩⟩, ⟨rfl, rfl⟩, ⟨rfl, rfl⟩, trivial⟩, trivial⟩ (memOk_row rfl rfl rfl trivial)⟩
end Go.Proofs.YtphaholcndhonaaDoor
