/- utf8.ValidString, and the floats' bits. No condition. -/
import Derived.Test.YtcdifgacoleckaaDoorAbQ
import Derived.Test.YtcdifgacoleckaaDoorAbH
import Derived.Test.YtcdifgacoleckaaDoorAbU
namespace Go.Proofs.YtcdifgacoleckaaDoor
open Go Go.RowKit Go.Proofs.YtcdifgacoleckaaDoor.Ab
set_option linter.unusedSimpArgs false
set_option linter.unusedVariables false

abbrev Byt := List UInt8
theorem mixedR : Tryd.prog.follows .mixedOrders = true := by kernel_rfl
def eT (l : Byt) : E := .v (.string (strB l))
theorem arg_v {C : Nat → Nat → Value → Prop} {w : World} {x : Value} {vs : Array Value} (h : RepAs C w [.v x] vs.toList) : vs = #[x] := by
  obtain ⟨h1, h2⟩ := h
  obtain ⟨l⟩ := vs
  match l, h1 with
  | [u], _ => rw [repV (h2 0 (.v x) u rfl rfl)]
theorem frombits_fn (n : Int) : FnE Tryd.prog 62 [.v (.int .u64 n)] (.v (.float .f64 n.toNat)) := by
  refine ⟨rfl, fun w vs C h => ?_⟩
  obtain rfl := arg_v h
  refine ⟨_, ?_, repV_mk rfl⟩
  unfold callFunc
  simp only [Sem.run_bind, run_program, Result.andThen_ok, Tryd.func62]
  rfl
theorem bits_fn (n : Nat) : FnE Tryd.prog 70 [.v (.float .f64 n)] (.v (.int .u64 n)) := by
  refine ⟨rfl, fun w vs C h => ?_⟩
  obtain rfl := arg_v h
  refine ⟨_, ?_, repV_mk rfl⟩
  unfold callFunc
  simp only [Sem.run_bind, run_program, Result.andThen_ok, Tryd.func70]
  rfl
set_option maxRecDepth 10000 in
set_option maxHeartbeats 2000000 in
theorem signbit_fn (n : Nat) : FnD Tryd.prog 63 [.one (.e (.v (.float .f64 n)))] (.v (.bool (decide (IntKind.i64.wrap (n : Int) < 0)))) := by
  refine fn_intro (T := tab) tOk Tryd.func63 rfl (by kernel_rfl) (by simp [Tryd.ntmps63]) ?_
  intro X hX
  have hnt : X.nt = 7 := hX
  clear hX
  repeat' first | refine zzs ?_ | refine zzr hnt rfl ?_ ?_ | refine zzd hnt rfl ?_ ?_ | refine zzb ?_ | refine zzk ?_
  · exact zzt
  repeat' first | refine zzs ?_ | refine zzb ?_ | refine zzk ?_
  refine tr_region (zzx hnt rfl ?_ (callE rfl rfl rfl rfl rfl rfl rfl hnt (bits_fn n) (zzx hnt rfl ?_ (Lex.nil _)))) ?_
  · exact zzt
  · exact zzt
  exact tr_ret ⟨.inr rfl, _, _, rfl, trivial, rfl⟩
/-! ### eight bytes as a word -/
def bq (l : Byt) (i : Nat) : BitVec 64 := BitVec.ofNat 64 (l.getD i 0).toNat
def wdQ (l : Byt) : BitVec 64 := bq l 0 ||| bq l 1 <<< 8 ||| bq l 2 <<< 16 ||| bq l 3 <<< 24 ||| bq l 4 <<< 32 ||| bq l 5 <<< 40 ||| bq l 6 <<< 48 ||| bq l 7 <<< 56
set_option maxRecDepth 10000 in
set_option maxHeartbeats 2000000 in
theorem word_fn (l : Byt) (h : 8 ≤ l.length) : FnD Tryd.prog 64 [.one (.e (eT l))] (.one (.e (eQ (wdQ l)))) := by
  refine fn_intro (T := tab) tOk Tryd.func64 rfl (by kernel_rfl) (by simp [Tryd.ntmps64]) ?_
  intro X hX
  have hnt : X.nt = 59 := hX
  clear hX
  have hl : (strB l).size = l.length := strB_size l
  repeat' first | refine zzs ?_ | refine zzr hnt rfl ?_ ?_ | refine zzd hnt rfl ?_ ?_ | refine zzb ?_ | refine zzk ?_
  · exact zzt
  refine tr_cond rfl (fun h => nomatch (show false = true from h)) (fun _ => ?_)
  repeat' first | refine zzs ?_ | refine zzr hnt rfl ?_ ?_ | refine zzd hnt rfl ?_ ?_ | refine zzb ?_ | refine zzk ?_
  · rw [hl]
    (dsimp only [AllP]; (repeat' first | exact trivial | assumption | exact Nat.le_of_ble_eq_true rfl | apply And.intro | exact eCells_len1 _ _ ‹_› | exact eCells_isByte _ _ ‹_› | (intro hh_; have hg_ := hh_; (try simp only [condT_ff, condF_tt, decide_eq_true_eq, decide_eq_false_iff_not] at hg_)) | intro _ | exact rfl | omega))
  repeat' first | refine zzs ?_ | refine zzb ?_ | refine zzk ?_
  refine tr_ret ⟨.inr rfl, _, _, rfl, trivial, ?_⟩
  refine congrArg (fun z : Int => D.one (D0.e (E.v (.int .u64 z)))) ?_
  simp only [show min (Int.toNat 8) IntKind.u64.bits = 8 from rfl, show min (Int.toNat 16) IntKind.u64.bits = 16 from rfl, show min (Int.toNat 24) IntKind.u64.bits = 24 from rfl, show min (Int.toNat 32) IntKind.u64.bits = 32 from rfl, show min (Int.toNat 40) IntKind.u64.bits = 40 from rfl, show min (Int.toNat 48) IntKind.u64.bits = 48 from rfl, show min (Int.toNat 56) IntKind.u64.bits = 56 from rfl, q_byte, q_shl, q_or]
  rfl
/-- where no byte of the word has its top bit, all are below 128 -/
theorem hi_bits : ∀ i : Fin 8, (BitVec.ofInt 64 9259542123273814144).getLsbD (8 * i.val + 7) = true := by decide
theorem byte_small {b : UInt8} (h : (BitVec.ofNat 64 b.toNat).getLsbD 7 = false) : b.toNat < 128 := by
  have hb := b.toNat_lt
  rw [BitVec.getLsbD_ofNat] at h
  simp only [Nat.testBit, Bool.and_eq_false_iff] at h
  rcases h with h | h
  · simp at h
  · rw [Nat.shiftRight_eq_div_pow] at h
    simp at h
    omega
theorem wd_small {l : Byt} (h : wdQ l &&& BitVec.ofInt 64 9259542123273814144 = 0#64) (i : Nat) (hi : i < 8) : (l.getD i 0).toNat < 128 := by
  have h1 : (wdQ l &&& BitVec.ofInt 64 9259542123273814144).getLsbD (8 * i + 7) = false := by rw [h]; simp
  rw [BitVec.getLsbD_and, hi_bits ⟨i, hi⟩, Bool.and_true] at h1
  refine byte_small ?_
  have hz : ∀ (j k : Nat), 8 ≤ k → (bq l j).getLsbD k = false := fun j k hk => by
    unfold bq
    rw [BitVec.getLsbD_ofNat, Nat.testBit_lt_two_pow (Nat.lt_of_lt_of_le (l.getD j 0).toNat_lt (Nat.pow_le_pow_right (by decide) hk))]
    simp
  unfold wdQ at h1
  simp only [BitVec.getLsbD_or, BitVec.getLsbD_shiftLeft, Bool.or_eq_false_iff] at h1
  obtain ⟨⟨⟨⟨⟨⟨⟨h0, h1⟩, h2⟩, h3⟩, h4⟩, h5⟩, h6⟩, h7⟩ := h1
  match i, hi with
  | 0, _ => exact h0
  | 1, _ => show (bq l 1).getLsbD 7 = false; simpa using h1
  | 2, _ => show (bq l 2).getLsbD 7 = false; simpa using h2
  | 3, _ => show (bq l 3).getLsbD 7 = false; simpa using h3
  | 4, _ => show (bq l 4).getLsbD 7 = false; simpa using h4
  | 5, _ => show (bq l 5).getLsbD 7 = false; simpa using h5
  | 6, _ => show (bq l 6).getLsbD 7 = false; simpa using h6
  | 7, _ => show (bq l 7).getLsbD 7 = false; simpa using h7
/-! ### texts that are UTF-8 -/
def utT : List Nat := List.replicate 128 240 ++ List.replicate 64 241 ++ List.replicate 2 241 ++ List.replicate 30 2 ++ List.replicate 1 19 ++ List.replicate 12 3 ++ List.replicate 1 35 ++ List.replicate 2 3 ++ List.replicate 1 52 ++ List.replicate 3 4 ++ List.replicate 1 68 ++ List.replicate 11 241
def acT : List Nat := [128, 191, 160, 191, 128, 159, 144, 191, 128, 143] ++ List.replicate 22 0
def eU8 (n : Nat) : E := .v (.int .u8 (n : Int))
def fsE : List E := utT.map eU8
def acE : List E := acT.map eU8
def gK : List (Nat × List E) := [(3, fsE), (4, acE)]
def tb (a : UInt8) : Nat := utT.getD a.toNat 0
def sz (a : UInt8) : Nat := tb a % 8
def alo (a : UInt8) : Nat := acT.getD (tb a / 16 * 2) 0
def ahi (a : UInt8) : Nat := acT.getD (tb a / 16 * 2 + 1) 0
def bI (x : Byt) (i : Nat) : Int := ((x.getD i 0).toNat : Int)
def bad2 (x : Byt) : Bool := bif (bif decide ((x.length : Int) < 2) then true else decide (bI x 1 < alo (x.getD 0 0))) then true else decide ((ahi (x.getD 0 0) : Int) < bI x 1)
def bad3 (x : Byt) : Bool := bif (bif (bif (bif decide ((x.length : Int) < 3) then true else decide (bI x 1 < alo (x.getD 0 0))) then true else decide ((ahi (x.getD 0 0) : Int) < bI x 1)) then true else decide (bI x 2 < 128)) then true else decide (191 < bI x 2)
def bad4 (x : Byt) : Bool := bif (bif (bif (bif (bif (bif decide ((x.length : Int) < 4) then true else decide (bI x 1 < alo (x.getD 0 0))) then true else decide ((ahi (x.getD 0 0) : Int) < bI x 1)) then true else decide (bI x 2 < 128)) then true else decide (191 < bI x 2)) then true else decide (bI x 3 < 128)) then true else decide (191 < bI x 3)
/-- how many bytes the first sign of a text has, if there is one -/
def stepU (x : Byt) : Option Nat :=
  if (x.getD 0 0).toNat < 128 then some 1
  else if sz (x.getD 0 0) = 2 then (if bad2 x = true then none else some 2)
  else if sz (x.getD 0 0) = 3 then (if bad3 x = true then none else some 3)
  else if sz (x.getD 0 0) = 4 then (if bad4 x = true then none else some 4)
  else none
def vldN : Nat → Byt → Bool
  | 0, _ => true
  | n + 1, x => if x = [] then true else match stepU x with
    | none => false
    | some k => vldN n (x.drop k)
def vld (x : Byt) : Bool := vldN x.length x
theorem stepU_pos {x : Byt} {k : Nat} (h : stepU x = some k) : 1 ≤ k := by
  unfold stepU at h
  split at h
  · cases h; exact Nat.le_refl _
  · split at h
    · split at h <;> cases h; decide
    · split at h
      · split at h <;> cases h; decide
      · split at h
        · split at h <;> cases h; decide
        · cases h
theorem vldN_eq : ∀ (n m : Nat) (x : Byt), x.length ≤ n → x.length ≤ m → vldN n x = vldN m x
  | 0, 0, _, _, _ => rfl
  | 0, m + 1, x, h, _ => by rw [vldN, vldN, if_pos (List.eq_nil_of_length_eq_zero (Nat.le_zero.1 h))]
  | n + 1, 0, x, _, h => by rw [vldN, vldN, if_pos (List.eq_nil_of_length_eq_zero (Nat.le_zero.1 h))]
  | n + 1, m + 1, x, h1, h2 => by
    rw [vldN, vldN]
    split
    · rfl
    · cases hs : stepU x with
      | none => rfl
      | some k =>
        have := stepU_pos hs
        rename_i hne
        have := List.length_pos_iff.2 hne
        exact vldN_eq n m (x.drop k) (by rw [List.length_drop]; omega) (by rw [List.length_drop]; omega)
theorem vld_nil : vld [] = true := rfl
theorem vld_step {x : Byt} (h : x ≠ []) : vld x = match stepU x with
    | none => false
    | some k => vld (x.drop k) := by
  cases x with
  | nil => exact absurd rfl h
  | cons a r =>
    show vldN (r.length + 1) (a :: r) = _
    rw [vldN, if_neg h]
    cases hs : stepU (a :: r) with
    | none => rfl
    | some k =>
      have := stepU_pos hs
      exact vldN_eq _ _ _ (by rw [List.length_drop, List.length_cons]; omega) (Nat.le_refl _)
theorem vld_ascii {x : Byt} (h : x ≠ []) (ha : (x.getD 0 0).toNat < 128) : vld (x.drop 1) = vld x := by
  rw [vld_step h, show stepU x = some 1 by unfold stepU; rw [if_pos ha]]
theorem vld_drop : ∀ (n : Nat) (x : Byt), n ≤ x.length → (∀ i, i < n → (x.getD i 0).toNat < 128) → vld (x.drop n) = vld x
  | 0, _, _, _ => rfl
  | n + 1, x, h, ha => by
    have hne : x ≠ [] := fun e => by rw [e] at h; simp at h
    rw [← vld_ascii hne (ha 0 (Nat.succ_pos n)), ← vld_drop n (x.drop 1) (by rw [List.length_drop]; omega) (fun i hi => by
      have := ha (i + 1) (by omega)
      rw [List.getD_eq_getElem?_getD] at this ⊢
      rw [List.getElem?_drop, Nat.add_comm]
      exact this), List.drop_drop, Nat.add_comm]
end Go.Proofs.YtcdifgacoleckaaDoor
