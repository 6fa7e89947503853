/- The document's tokens: numbers, hex. No condition. -/
import Derived.Test.YtphaholcndhonaaDoorTLcP
import Derived.Laws.StandIn
namespace Go.Proofs.YtphaholcndhonaaDoor
open Go Go.RowKit Go.Proofs.YtphaholcndhonaaDoor.Ab
set_option linter.unusedSimpArgs false
set_option linter.unusedVariables false

def dv (n : Nat) (t : Byt) : Nat := t.foldl (fun n c => 10 * n + (c.toNat - 48)) n
theorem dv0 (n : Nat) : dv n [] = n := rfl
theorem dvC (n : Nat) (c : UInt8) (r : Byt) : dv n (c :: r) = dv (10 * n + (c.toNat - 48)) r := List.foldl_cons ..
def MX : Nat := 9223372036854775807
theorem dv_ge (t : Byt) : ∀ n : Nat, n * 10 ^ t.length ≤ dv n t := by
  induction t with
  | nil => intro n; rw [dv0]; simp
  | cons c r ih =>
    intro n
    have h0 := ih (10 * n + (c.toNat - 48))
    rw [dvC, List.length_cons, Nat.pow_succ]
    generalize 10 ^ r.length = P at *
    have h2 : (10 * n) * P ≤ (10 * n + (c.toNat - 48)) * P := Nat.mul_le_mul_right _ (by omega)
    have h3 : n * (P * 10) = 10 * n * P := by rw [Nat.mul_comm 10 n, Nat.mul_assoc, Nat.mul_comm 10]
    omega
theorem dv_lt (t : Byt) : ∀ n : Nat, (∀ c ∈ t, digitB c = true) → dv n t < (n + 1) * 10 ^ t.length := by
  induction t with
  | nil => intro n _; rw [dv0]; simp
  | cons c r ih =>
    intro n h
    have hd := dig_rng (h c List.mem_cons_self)
    have h0 := ih (10 * n + (c.toNat - 48)) fun x hx => h x (List.mem_cons_of_mem _ hx)
    rw [dvC, List.length_cons, Nat.pow_succ]
    generalize 10 ^ r.length = P at *
    have h2 : (10 * n + (c.toNat - 48) + 1) * P ≤ (10 * (n + 1)) * P := Nat.mul_le_mul_right _ (by omega)
    have h3 : (n + 1) * (P * 10) = 10 * (n + 1) * P := by rw [Nat.mul_comm 10 (n + 1), Nat.mul_assoc, Nat.mul_comm 10]
    omega
theorem dv_mono (t : Byt) (n : Nat) : n ≤ dv n t := by
  have := dv_ge t n
  have h2 : n * 1 ≤ n * 10 ^ t.length := Nat.mul_le_mul_left _ (Nat.pow_pos (by decide))
  omega
theorem numL_val : ∀ (t : Byt) (n : Nat), (∀ c ∈ t, digitB c = true) → numL n t = if dv n t ≤ MX ∨ t = [] then some (dv n t) else none
  | [], n, _ => by rw [numL, dv0, if_pos (.inr rfl)]
  | c :: r, n, h => by
    have hd := dig_rng (h c List.mem_cons_self)
    have hm := dv_mono r (10 * n + (c.toNat - 48))
    rw [numL, dvC, numL_val r _ fun x hx => h x (List.mem_cons_of_mem _ hx)]
    have hx : MX = 9223372036854775807 := rfl
    by_cases h1 : (9223372036854775807 - (c.toNat - 48)) / 10 < n
    · rw [if_pos h1, if_neg]
      rintro (h2 | h2)
      · omega
      · cases h2
    · rw [if_neg h1]
      by_cases h2 : dv (10 * n + (c.toNat - 48)) r ≤ MX
      · rw [if_pos (.inl h2), if_pos (.inl h2)]
      · rw [if_neg (c := _ ∨ c :: r = []) (fun e => e.elim h2 (fun e => nomatch e))]
        rw [if_neg]
        rintro (h3 | h3)
        · exact h2 h3
        · subst h3
          rw [dv0] at h2
          omega
theorem less_val : ∀ (a b : Byt) (n m : Nat), a.length = b.length → (∀ c ∈ a, digitB c = true) → (∀ c ∈ b, digitB c = true) → n = m → (Op.bytesLess a b = true ↔ dv n a < dv m b)
  | [], [], n, m, _, _, _, e => by subst e; simp [Op.bytesLess, dv0]
  | c :: a, d :: b, n, m, hl, ha, hb, e => by
    subst e
    have hc := dig_rng (ha c List.mem_cons_self)
    have hd := dig_rng (hb d List.mem_cons_self)
    have hl : a.length = b.length := by simpa using hl
    have ha' := fun x hx => ha x (List.mem_cons_of_mem _ hx)
    have hb' := fun x hx => hb x (List.mem_cons_of_mem _ hx)
    rw [dvC, dvC]
    have key : ∀ (x y : Byt) (p q : Nat), x.length = y.length → (∀ c ∈ x, digitB c = true) → p < q → dv p x < dv q y := fun x y p q h1 h2 h3 => by
      have h4 := dv_lt x p h2
      have h5 := dv_ge y q
      have h6 : (p + 1) * 10 ^ x.length ≤ q * 10 ^ x.length := Nat.mul_le_mul_right _ h3
      rw [h1] at h4 h6
      omega
    have hlt : (c < d) ↔ c.toNat < d.toNat := UInt8.lt_iff_toNat_lt
    have heq : (c = d) ↔ c.toNat = d.toNat := UInt8.toNat_inj.symm
    simp only [Op.bytesLess, Bool.or_eq_true, Bool.and_eq_true, decide_eq_true_eq, beq_iff_eq, hlt, heq]
    rcases Nat.lt_trichotomy c.toNat d.toNat with h | h | h
    · have := key a b (10 * n + (c.toNat - 48)) (10 * n + (d.toNat - 48)) hl ha' (by omega)
      exact ⟨fun _ => this, fun _ => .inl h⟩
    · have := less_val a b (10 * n + (c.toNat - 48)) (10 * n + (d.toNat - 48)) hl ha' hb' (by rw [h])
      constructor
      · rintro (h2 | h2)
        · omega
        · exact this.1 h2.2
      · intro h2
        exact .inr ⟨h, this.2 h2⟩
    · have := key b a (10 * n + (d.toNat - 48)) (10 * n + (c.toNat - 48)) hl.symm hb' (by omega)
      constructor
      · rintro (h2 | h2) <;> omega
      · intro h2
        omega
theorem less_tri : ∀ (a b : Byt), a.length = b.length → ¬ Op.bytesLess a b = true → ¬ Op.bytesLess b a = true → a = b
  | [], [], _, _, _ => rfl
  | c :: a, d :: b, hl, h1, h2 => by
    have hlt : (c < d) ↔ c.toNat < d.toNat := UInt8.lt_iff_toNat_lt
    have hlt2 : (d < c) ↔ d.toNat < c.toNat := UInt8.lt_iff_toNat_lt
    have heq : (c = d) ↔ c.toNat = d.toNat := UInt8.toNat_inj.symm
    have heq2 : (d = c) ↔ d.toNat = c.toNat := UInt8.toNat_inj.symm
    simp only [Op.bytesLess, Bool.or_eq_true, Bool.and_eq_true, decide_eq_true_eq, beq_iff_eq, hlt, heq, hlt2, heq2] at h1 h2
    have hcd : c.toNat = d.toNat := by
      rcases Nat.lt_trichotomy c.toNat d.toNat with h | h | h
      · exact absurd (.inl h) h1
      · exact h
      · exact absurd (.inl h) h2
    rw [UInt8.toNat_inj.1 hcd, less_tri a b (by simpa using hl) (fun e => h1 (.inr ⟨hcd, e⟩)) (fun e => h2 (.inr ⟨hcd.symm, e⟩))]
theorem numC (t : Byt) : (bif decide ((1 : Int) < (((strB t).size : Nat) : Int)) then decide ((((strB t).data.toList.getD (Int.toNat 0) 0).toNat : Int) = 48) else false) = decide (1 < t.length ∧ t.getD 0 0 = 48) := by
  rw [strB_size, strB_list]
  show (bif _ then decide (((t.getD 0 0).toNat : Int) = 48) else false) = _
  by_cases h : 1 < t.length
  · rw [decide_eq_true (by omega : (1 : Int) < (t.length : Int)), cond_true]
    congr 1
    apply propext
    constructor
    · intro e
      exact ⟨h, UInt8.toNat_inj.1 (by show _ = 48; omega)⟩
    · intro e
      rw [e.2]
      rfl
  · rw [decide_eq_false (by omega : ¬ (1 : Int) < (t.length : Int)), cond_false, decide_eq_false (fun e => h e.1)]
def mostT : Byt := [57, 50, 50, 51, 51, 55, 50, 48, 51, 54, 56, 53, 52, 55, 55, 53, 56, 48, 55]
theorem most_val : dv 0 mostT = MX := by decide
theorem most_dig : ∀ c ∈ mostT, digitB c = true := by decide
theorem digC {t : Byt} (hd : ∀ c ∈ t, digitB c = true) (h0 : ¬ (1 < t.length ∧ t.getD 0 0 = 48)) : (bif decide ((19 : Int) < (t.length : Int)) then true else (bif decide ((t.length : Int) = 19) then !(strLt (strB t) (strB mostT) || strEq (strB t) (strB mostT)) else false)) = decide (numL 0 t = none) := by
  have hv := numL_val t 0 hd
  have hlt := dv_lt t 0 hd
  have hge := dv_ge t 0
  have hx : MX = 9223372036854775807 := rfl
  rw [Nat.zero_add, Nat.one_mul] at hlt
  by_cases h1 : 19 < t.length
  · rw [decide_eq_true (by omega : (19 : Int) < (t.length : Int)), cond_true]
    symm
    rw [decide_eq_true_eq, hv, if_neg]
    rintro (h2 | h2)
    · cases t with
      | nil => simp at h1
      | cons c r =>
        have hc := dig_rng (hd c List.mem_cons_self)
        have hc48 : c.toNat ≠ 48 := fun e => h0 ⟨by rw [List.length_cons] at h1 ⊢; omega, UInt8.toNat_inj.1 e⟩
        have h3 := dv_ge r (10 * 0 + (c.toNat - 48))
        rw [dvC] at h2
        rw [List.length_cons] at h1
        have h4 : 10 ^ 19 ≤ 10 ^ r.length := Nat.pow_le_pow_right (by decide) (by omega)
        have h5 : 1 * 10 ^ r.length ≤ (10 * 0 + (c.toNat - 48)) * 10 ^ r.length := Nat.mul_le_mul_right _ (by omega)
        omega
    · rw [h2] at h1; simp at h1
  · rw [decide_eq_false (by omega : ¬ (19 : Int) < (t.length : Int)), cond_false]
    by_cases h2 : t.length = 19
    · rw [decide_eq_true (by omega : (t.length : Int) = 19), cond_true]
      have hls := less_val t mostT 0 0 h2 hd most_dig rfl
      rw [most_val] at hls
      have hlb : strLt (strB t) (strB mostT) = Op.bytesLess t mostT := by
        unfold strLt
        rw [bytes_list, bytes_list, strB_list, strB_list]
      rw [hlb, strEq_B, hv]
      have hne : t ≠ [] := fun e => by rw [e] at h2; simp at h2
      by_cases h3 : dv 0 t ≤ MX
      · rw [if_pos (.inl h3)]
        by_cases h4 : dv 0 t < MX
        · rw [hls.2 h4]; simp
        · have h5 : t = mostT := by
            have hle : ¬ Op.bytesLess t mostT = true := fun e => h4 (hls.1 e)
            have hle2 : ¬ Op.bytesLess mostT t = true := fun e => by
              have := (less_val mostT t 0 0 h2.symm most_dig hd rfl).1 e
              rw [most_val] at this
              omega
            exact less_tri t mostT h2 hle hle2
          rw [show decide (t = mostT) = true from decide_eq_true h5]
          cases Op.bytesLess t mostT <;> simp
      · rw [if_neg (fun e => e.elim h3 hne)]
        have h4 : ¬ Op.bytesLess t mostT = true := fun e => by have := hls.1 e; omega
        have h5 : ¬ t = mostT := fun e => h3 (by rw [e, most_val]; exact Nat.le_refl _)
        rw [decide_eq_false h5]
        cases hh : Op.bytesLess t mostT with
        | true => exact absurd hh h4
        | false => simp
    · rw [decide_eq_false (by omega : ¬ (t.length : Int) = 19), cond_false]
      symm
      rw [decide_eq_false_iff_not, hv, if_pos]
      · exact fun e => nomatch e
      · have h4 : 10 ^ t.length ≤ 10 ^ 18 := Nat.pow_le_pow_right (by decide) (by omega)
        exact .inl (by omega)
def rNu (x : Nat × Int) : D := .tup [(false, .es [eI (x.1 : Int)]), (false, .es [eI x.2])]
set_option maxRecDepth 10000 in
set_option maxHeartbeats 2000000 in
theorem digitsOf_fn (t : Byt) (hd : ∀ c ∈ t, digitB c = true) (hl : t.length ≤ 300) : FnD Tryd.prog 95 [.one (.e (eT t))] (rNu (numR t)) := by
  refine fn_intro (T := tab) tOk Tryd.func95 rfl (by kernel_rfl) (by simp [Tryd.ntmps95]) ?_
  intro X hX
  have hnt : X.nt = 47 := hX
  clear hX
  have lt : (strB t).size = t.length := strB_size t
  repeat' (first | refine tr_seq ?_ | refine tr_block ?_ | refine tr_skip ?_)
  first | refine reg (T := tab) tOk hnt rfl ?_ ?_ | refine regD (T := tab) tOk mixedR hnt rfl (by first | decide +kernel | kernel_rfl) ?_ ?_
  · (dsimp only [AllP]; (repeat' first | exact trivial | assumption | exact Nat.le_of_ble_eq_true rfl | apply And.intro | decide | intro _ | exact rfl))
  repeat' (first | refine tr_seq ?_ | refine tr_block ?_ | refine tr_skip ?_)
  first | refine reg (T := tab) tOk hnt rfl ?_ ?_ | refine regD (T := tab) tOk mixedR hnt rfl (by first | decide +kernel | kernel_rfl) ?_ ?_
  · rw [lt]
    (dsimp only [AllP]; (repeat' first | exact trivial | assumption | exact Nat.le_of_ble_eq_true rfl | apply And.intro | exact eCells_len1 _ _ ‹_› | exact eCells_isByte _ _ ‹_› | (intro hh_; have hg_ := hh_; (try simp only [condT_ff, condF_tt, notE_t, notE_f, Bool.and_eq_true, ne_eq, decide_eq_true_eq, decide_eq_false_iff_not] at hg_)) | intro _ | exact rfl | omega))
  have hcx : (bif decide ((1 : Int) < (((strB t).size : Nat) : Int)) then decide ((((strB t).data.toList.getD (Int.toNat 0) 0).toNat : Int) = 48) else false) = decide (1 < t.length ∧ t.getD 0 0 = 48) := numC t
  repeat' (first | refine tr_seq ?_ | refine tr_block ?_ | refine tr_skip ?_)
  refine tr_cond rfl (fun hc => ?_) (fun hc => ?_)
  · have hc := of_decide_eq_true (hcx.symm.trans hc)
    have hR : numR t = (0, 3) := by unfold numR; rw [if_pos hc]
    rw [hR]
    repeat' (first | refine tr_seq ?_ | refine reg (T := tab) tOk hnt rfl ?_ ?_ | refine regD (T := tab) tOk mixedR hnt rfl (by first | decide +kernel | kernel_rfl) ?_ ?_ | refine tr_block ?_ | refine tr_skip ?_)
    · (dsimp only [AllP]; (repeat' first | exact trivial | assumption | exact Nat.le_of_ble_eq_true rfl | apply And.intro | decide | intro _ | exact rfl))
    exact tr_ret ⟨.inr rfl, _, _, rfl, trivial, rfl⟩
  have h0 := of_decide_eq_false (hcx.symm.trans hc)
  have hR : numR t = match numL 0 t with | none => (0, 6) | some n => (n, 0) := by unfold numR; rw [if_neg h0]; cases numL 0 t <;> rfl
  repeat' (first | refine tr_seq ?_ | refine tr_block ?_ | refine tr_skip ?_)
  first | refine reg (T := tab) tOk hnt rfl ?_ ?_ | refine regD (T := tab) tOk mixedR hnt rfl (by first | decide +kernel | kernel_rfl) ?_ ?_
  · (dsimp only [AllP]; (repeat' first | exact trivial | assumption | exact Nat.le_of_ble_eq_true rfl | apply And.intro | decide | intro _ | exact rfl))
  repeat' (first | refine tr_seq ?_ | refine tr_block ?_ | refine tr_skip ?_)
  first | refine reg (T := tab) tOk hnt rfl ?_ ?_ | refine regD (T := tab) tOk mixedR hnt rfl (by first | decide +kernel | kernel_rfl) ?_ ?_
  · rw [lt]
    (dsimp only [AllP]; (repeat' first | exact trivial | assumption | exact Nat.le_of_ble_eq_true rfl | apply And.intro | exact eCells_len1 _ _ ‹_› | exact eCells_isByte _ _ ‹_› | (intro hh_; have hg_ := hh_; (try simp only [condT_ff, condF_tt, notE_t, notE_f, Bool.and_eq_true, ne_eq, decide_eq_true_eq, decide_eq_false_iff_not] at hg_)) | intro _ | exact rfl | omega))
  rw [lt]
  repeat' (first | refine tr_seq ?_ | refine tr_block ?_ | refine tr_skip ?_)
  refine tr_cond rfl (fun hc => ?_) (fun hc => ?_)
  · have hc := of_decide_eq_true ((digC hd h0).symm.trans hc)
    rw [hc] at hR
    have hR : numR t = (0, 6) := hR
    rw [hR]
    repeat' (first | refine tr_seq ?_ | refine reg (T := tab) tOk hnt rfl ?_ ?_ | refine regD (T := tab) tOk mixedR hnt rfl (by first | decide +kernel | kernel_rfl) ?_ ?_ | refine tr_block ?_ | refine tr_skip ?_)
    · (dsimp only [AllP]; (repeat' first | exact trivial | assumption | exact Nat.le_of_ble_eq_true rfl | apply And.intro | decide | intro _ | exact rfl))
    exact tr_ret ⟨.inr rfl, _, _, rfl, trivial, rfl⟩
  have hc : ¬ numL 0 t = none := of_decide_eq_false ((digC hd h0).symm.trans hc)
  obtain ⟨v, hv⟩ : ∃ v, numL 0 t = some v := by
    cases h : numL 0 t with
    | none => exact absurd h hc
    | some v => exact ⟨v, rfl⟩
  rw [hv] at hR
  have hR : numR t = (v, 0) := hR
  rw [hR]
  repeat' (first | refine tr_seq ?_ | refine reg (T := tab) tOk hnt rfl ?_ ?_ | refine regD (T := tab) tOk mixedR hnt rfl (by first | decide +kernel | kernel_rfl) ?_ ?_ | refine tr_block ?_ | refine tr_skip ?_)
  · (dsimp only [AllP]; (repeat' first | exact trivial | assumption | exact Nat.le_of_ble_eq_true rfl | apply And.intro | decide | intro _ | exact rfl))
  · (dsimp only [AllP]; (repeat' first | exact trivial | assumption | exact Nat.le_of_ble_eq_true rfl | apply And.intro | decide | intro _ | exact rfl))
  repeat' (first | refine tr_seq ?_ | refine tr_block ?_ | refine tr_skip ?_)
  refine tr_loop (σ := Nat × Nat) (fun x => St.of [(0, .one (.e (eT t))), (5, .one (.e (eI (x.2 : Int)))), (6, .one (.e (eI (x.1 : Int))))] []) (fun x => x.1 ≤ t.length ∧ numL x.2 (t.drop x.1) = some v) (fun x => t.length - x.1) ((0, 0)) (le_of (ad := []) (by refine ⟨?_, ?_, ?_, trivial⟩ <;> first | exact trivial | rfl | exact ⟨rfl, rfl⟩ | exact ⟨rfl, rfl, rfl⟩ | exact ⟨rfl, rfl, rfl, rfl⟩ | exact ⟨rfl, rfl, rfl, rfl, rfl⟩ | exact congrArg (fun z : Int => E.v (.int .i64 z)) (wrap64_id (by omega) (by omega)) | exact congrArg (fun z : Int => E.v (.int .u8 z)) (by assumption) | exact congrArg (fun z : ByteArray => E.v (.string z)) (by assumption) | (refine ⟨rfl, ?_⟩; repeat' first | exact trivial | rfl | apply And.intro)) trivial) ⟨Nat.zero_le _, hv⟩ ?_
  rintro ⟨i, n⟩ ⟨il, hJ⟩
  dsimp only at il hJ ⊢
  repeat' (first | refine tr_seq ?_ | refine tr_block ?_ | refine tr_skip ?_)
  first | refine reg (T := tab) tOk hnt rfl ?_ ?_ | refine regD (T := tab) tOk mixedR hnt rfl (by first | decide +kernel | kernel_rfl) ?_ ?_
  · (dsimp only [AllP]; (repeat' first | exact trivial | assumption | exact Nat.le_of_ble_eq_true rfl | apply And.intro | decide | intro _ | exact rfl))
  rw [lt]
  repeat' (first | refine tr_seq ?_ | refine tr_block ?_ | refine tr_skip ?_)
  refine tr_cond rfl (fun hc => ?_) (fun hc => ?_)
  · simp only [condT_tt, condT_ff, condF_tt, condF_ff, notE_t, notE_f, decide_eq_true_eq, decide_eq_false_iff_not] at hc
    have hlt : i < t.length := by omega
    have hdg := dig_rng (hd _ (show t.getD i 0 ∈ t from getD_mem hlt))
    rw [drop_getD (d := 0) hlt, numL] at hJ
    have hx : (strB t).data.toList.getD (Int.toNat (i : Int)) 0 = t.getD i 0 := by rw [strB_list, Int.toNat_natCast]
    generalize t.getD i 0 = c at *
    by_cases hov : (9223372036854775807 - (c.toNat - 48)) / 10 < n
    · rw [if_pos hov] at hJ; cases hJ
    rw [if_neg hov] at hJ
    have w1 : IntKind.i64.wrap (IntKind.u8.wrap ((c.toNat : Int) - 48)) = ((c.toNat - 48 : Nat) : Int) := by
      have key : ∀ k : Fin 10, IntKind.i64.wrap (IntKind.u8.wrap (((48 + k.val : Nat) : Int) - 48)) = (k.val : Int) := by decide
      have := key ⟨c.toNat - 48, by omega⟩
      rw [show 48 + (c.toNat - 48) = c.toNat by omega] at this
      exact this
    have w2 : IntKind.i64.wrap (IntKind.i64.wrap ((n : Int) * 10) + IntKind.i64.wrap (IntKind.u8.wrap ((c.toNat : Int) - 48))) = ((10 * n + (c.toNat - 48) : Nat) : Int) := by
      rw [w1, wrap64_id (n := (n : Int) * 10) (by omega) (by omega), wrap64_id (by omega) (by omega)]
      omega
    repeat' (first | refine tr_seq ?_ | refine tr_block ?_ | refine tr_skip ?_)
    first | refine reg (T := tab) tOk hnt rfl ?_ ?_ | refine regD (T := tab) tOk mixedR hnt rfl (by first | decide +kernel | kernel_rfl) ?_ ?_
    · rw [lt]
      (dsimp only [AllP]; (repeat' first | exact trivial | assumption | exact Nat.le_of_ble_eq_true rfl | apply And.intro | exact eCells_len1 _ _ ‹_› | exact eCells_isByte _ _ ‹_› | (intro hh_; have hg_ := hh_; (try simp only [condT_ff, condF_tt, notE_t, notE_f, Bool.and_eq_true, ne_eq, decide_eq_true_eq, decide_eq_false_iff_not] at hg_)) | intro _ | exact rfl | omega))
    rw [hx, w2]
    repeat' (first | refine tr_seq ?_ | refine reg (T := tab) tOk hnt rfl ?_ ?_ | refine regD (T := tab) tOk mixedR hnt rfl (by first | decide +kernel | kernel_rfl) ?_ ?_ | refine tr_block ?_ | refine tr_skip ?_)
    · (dsimp only [AllP]; (repeat' first | exact trivial | assumption | exact Nat.le_of_ble_eq_true rfl | apply And.intro | decide | intro _ | exact rfl))
    refine ⟨(i + 1, 10 * n + (c.toNat - 48)), ⟨hlt, hJ⟩, by dsimp only; omega, le_of (ad := []) (by refine ⟨?_, ?_, ?_, trivial⟩ <;> first | exact trivial | rfl | exact ⟨rfl, rfl⟩ | exact ⟨rfl, rfl, rfl⟩ | exact ⟨rfl, rfl, rfl, rfl⟩ | exact ⟨rfl, rfl, rfl, rfl, rfl⟩ | exact congrArg (fun z : Int => E.v (.int .i64 z)) (wrap64_id (by omega) (by omega)) | exact congrArg (fun z : Int => E.v (.int .u8 z)) (by assumption) | exact congrArg (fun z : ByteArray => E.v (.string z)) (by assumption) | (refine ⟨rfl, ?_⟩; repeat' first | exact trivial | rfl | apply And.intro)) trivial⟩
  simp only [condT_tt, condT_ff, condF_tt, condF_ff, notE_t, notE_f, decide_eq_true_eq, decide_eq_false_iff_not] at hc
  refine tr_exit ?_
  rw [List.drop_eq_nil_of_le (by omega), numL] at hJ
  cases hJ
  repeat' (first | refine tr_seq ?_ | refine reg (T := tab) tOk hnt rfl ?_ ?_ | refine regD (T := tab) tOk mixedR hnt rfl (by first | decide +kernel | kernel_rfl) ?_ ?_ | refine tr_block ?_ | refine tr_skip ?_)
  · (dsimp only [AllP]; (repeat' first | exact trivial | assumption | exact Nat.le_of_ble_eq_true rfl | apply And.intro | decide | intro _ | exact rfl))
  exact tr_ret ⟨.inr rfl, _, _, rfl, trivial, rfl⟩
end Go.Proofs.YtphaholcndhonaaDoor
namespace Go.Proofs.YtphaholcndhonaaDoor
open Go Go.RowKit Go.Proofs.YtphaholcndhonaaDoor.Ab
set_option linter.unusedSimpArgs false
set_option linter.unusedVariables false

def hexT : Byt := [48, 49, 50, 51, 52, 53, 54, 55, 56, 57, 97, 98, 99, 100, 101, 102]
def hxI (c : UInt8) : Int := match (List.range 16).find? fun i => (strB hexT)[i]! == c with
  | some i => (i : Int)
  | none => -1
theorem hxI_some : ∀ c : UInt8, (match hxD c with | some d => decide (hxI c = (d.toNat : Int)) && decide (d.toNat < 16) | none => decide (hxI c = -1)) = true := byte_all (q := fun _ => true) (by decide +kernel)
theorem idx_ext (c : UInt8) : FnE Tryd.prog 184 [.v (.string (strB hexT)), .one (.e (eB c))] (.v (.int .i64 (hxI c))) := by
  intro w vs C h
  have hv : vs = #[.string (strB hexT), .int .u8 (c.toNat : Int)] := by
    obtain ⟨h1, h2⟩ := h
    obtain ⟨l⟩ := vs
    match l, h1, h2 with
    | [a, b], _, h2 =>
      have ea := repV (h2 0 _ a rfl rfl)
      have eb := repV (h2 1 _ b rfl rfl)
      rw [ea, eb]
  subst hv
  refine ⟨_, ?_, repV_mk rfl⟩
  rw [run_callFunc_indexByte Tryd.func184 (by kernel_rfl) (by kernel_rfl) (by kernel_rfl) (by kernel_rfl), run_indexByte_string]
  have hc : (c.toNat : Int).toNat.toUInt8 = c := by rw [Int.toNat_natCast]; exact UInt8.ofNat_toNat ..
  rw [hc]
  rfl
set_option maxRecDepth 10000 in
set_option maxHeartbeats 2000000 in
theorem idx0_fn (c : UInt8) : FnD Tryd.prog 170 [.one (.e (.v (.string (strB hexT)))), .one (.e (eB c))] (.v (.int .i64 (hxI c))) := by
  refine fn_intro (T := tab) tOk Tryd.func170 rfl (by kernel_rfl) (by simp [Tryd.ntmps170]) ?_
  intro X hX
  have hnt : X.nt = 8 := hX
  clear hX
  repeat' (first | refine tr_seq ?_ | refine reg (T := tab) tOk hnt rfl ?_ ?_ | refine regD (T := tab) tOk mixedR hnt rfl (by first | decide +kernel | kernel_rfl) ?_ ?_ | refine tr_block ?_ | refine tr_skip ?_)
  · (dsimp only [AllP]; (repeat' first | exact trivial | assumption | exact Nat.le_of_ble_eq_true rfl | apply And.intro | decide | intro _ | exact rfl))
  repeat' (first | refine tr_seq ?_ | refine tr_block ?_ | refine tr_skip ?_)
  refine tr_region (lex (T := tab) tOk hnt rfl ?_ (callE rfl rfl rfl rfl rfl rfl rfl hnt ((idx_ext c)) (lex (T := tab) tOk hnt rfl ?_ (Lex.nil _)))) ?_
  · (dsimp only [AllP]; (repeat' first | exact trivial | assumption | exact Nat.le_of_ble_eq_true rfl | apply And.intro | decide | intro _ | exact rfl))
  · (dsimp only [AllP]; (repeat' first | exact trivial | assumption | exact Nat.le_of_ble_eq_true rfl | apply And.intro | decide | intro _ | exact rfl))
  exact tr_ret ⟨.inr rfl, _, _, rfl, trivial, rfl⟩
set_option maxRecDepth 10000 in
set_option maxHeartbeats 2000000 in
theorem idx_fn (c : UInt8) : FnD Tryd.prog 143 [.one (.e (.v (.string (strB hexT)))), .one (.e (eB c))] (.v (.int .i64 (hxI c))) := by
  refine fn_intro (T := tab) tOk Tryd.func143 rfl (by kernel_rfl) (by simp [Tryd.ntmps143]) ?_
  intro X hX
  have hnt : X.nt = 8 := hX
  clear hX
  repeat' (first | refine tr_seq ?_ | refine reg (T := tab) tOk hnt rfl ?_ ?_ | refine regD (T := tab) tOk mixedR hnt rfl (by first | decide +kernel | kernel_rfl) ?_ ?_ | refine tr_block ?_ | refine tr_skip ?_)
  · (dsimp only [AllP]; (repeat' first | exact trivial | assumption | exact Nat.le_of_ble_eq_true rfl | apply And.intro | decide | intro _ | exact rfl))
  repeat' (first | refine tr_seq ?_ | refine tr_block ?_ | refine tr_skip ?_)
  refine tr_region (lex (T := tab) tOk hnt rfl ?_ (call rfl rfl rfl rfl rfl rfl rfl hnt ((idx0_fn c)) (lex (T := tab) tOk hnt rfl ?_ (Lex.nil _)))) ?_
  · (dsimp only [AllP]; (repeat' first | exact trivial | assumption | exact Nat.le_of_ble_eq_true rfl | apply And.intro | decide | intro _ | exact rfl))
  · (dsimp only [AllP]; (repeat' first | exact trivial | assumption | exact Nat.le_of_ble_eq_true rfl | apply And.intro | decide | intro _ | exact rfl))
  exact tr_ret ⟨.inr rfl, _, _, rfl, trivial, rfl⟩
theorem hx_add (n d : BitVec 64) (h : d.toNat < 16) : IntKind.u64.wrap (IntKind.u64.wrap ((n.toNat : Int) * 16) + (d.toNat : Int)) = ((n <<< 4 ||| d).toNat : Int) := by
  rw [show ((n.toNat : Int) * 16) = (n.toNat : Int) * 2 ^ 4 from rfl, q_shl, q_add]
  congr 1
  rw [BitVec.toNat_add, BitVec.toNat_or, BitVec.toNat_shiftLeft]
  have h1 : n.toNat <<< 4 % 2 ^ 64 = (n.toNat % 2 ^ 60) <<< 4 := by
    rw [Nat.shiftLeft_eq, Nat.shiftLeft_eq]
    omega
  rw [h1, ← Nat.shiftLeft_add_eq_or_of_lt (show d.toNat < 2 ^ 4 from h), Nat.shiftLeft_eq]
  omega
def rHd (x : Int × BitVec 64) : D := .tup [(false, .es [eQ x.2]), (false, .es [eI x.1])]
set_option maxRecDepth 10000 in
set_option maxHeartbeats 2000000 in
theorem hexed_fn (s : Byt) (hs : s.length ≤ 300) : FnD Tryd.prog 97 [.one (.e (eT s))] (rHd (hxR (s.drop 1))) := by
  refine fn_intro (T := tab) tOk Tryd.func97 rfl (by kernel_rfl) (by simp [Tryd.ntmps97]) ?_
  intro X hX
  have hnt : X.nt = 29 := hX
  clear hX
  have ls : (strB s).size = s.length := strB_size s
  repeat' (first | refine tr_seq ?_ | refine reg (T := tab) tOk hnt rfl ?_ ?_ | refine regD (T := tab) tOk mixedR hnt rfl (by first | decide +kernel | kernel_rfl) ?_ ?_ | refine tr_block ?_ | refine tr_skip ?_)
  · (dsimp only [AllP]; (repeat' first | exact trivial | assumption | exact Nat.le_of_ble_eq_true rfl | apply And.intro | decide | intro _ | exact rfl))
  · (dsimp only [AllP]; (repeat' first | exact trivial | assumption | exact Nat.le_of_ble_eq_true rfl | apply And.intro | decide | intro _ | exact rfl))
  · (dsimp only [AllP]; (repeat' first | exact trivial | assumption | exact Nat.le_of_ble_eq_true rfl | apply And.intro | decide | intro _ | exact rfl))
  generalize hr0 : s.drop 1 = r0
  repeat' (first | refine tr_seq ?_ | refine tr_block ?_ | refine tr_skip ?_)
  refine tr_loop (σ := Nat × BitVec 64) (fun x => St.of [(0, .one (.e (eT s))), (4, .one (.e (eQ x.2))), (5, .one (.e (eI ((x.1 + 1 : Nat) : Int))))] []) (fun x => x.1 ≤ 16 ∧ (hxL 16 r0 0).1 = (hxL (16 - x.1) (s.drop (x.1 + 1)) x.2).1 ∧ (hxL 16 r0 0).2.1 = (hxL (16 - x.1) (s.drop (x.1 + 1)) x.2).2.1) (fun x => 16 - x.1) ((0, 0)) (le_of (ad := []) (by refine ⟨?_, ?_, ?_, trivial⟩ <;> first | exact trivial | rfl | exact ⟨rfl, rfl⟩ | exact ⟨rfl, rfl, rfl⟩ | exact ⟨rfl, rfl, rfl, rfl⟩ | exact ⟨rfl, rfl, rfl, rfl, rfl⟩ | exact congrArg (fun z : Int => E.v (.int .i64 z)) (wrap64_id (by omega) (by omega)) | exact congrArg (fun z : Int => E.v (.int .u8 z)) (by assumption) | exact congrArg (fun z : ByteArray => E.v (.string z)) (by assumption) | (refine ⟨rfl, ?_⟩; repeat' first | exact trivial | rfl | apply And.intro)) trivial) ⟨Nat.zero_le _, by rw [← hr0]; rfl, by rw [← hr0]; rfl⟩ ?_
  rintro ⟨k, n⟩ ⟨k16, h1, h2⟩
  dsimp only at k16 h1 h2 ⊢
  repeat' (first | refine tr_seq ?_ | refine reg (T := tab) tOk hnt rfl ?_ ?_ | refine regD (T := tab) tOk mixedR hnt rfl (by first | decide +kernel | kernel_rfl) ?_ ?_ | refine tr_block ?_ | refine tr_skip ?_)
  · (dsimp only [AllP]; (repeat' first | exact trivial | assumption | exact Nat.le_of_ble_eq_true rfl | apply And.intro | decide | intro _ | exact rfl))
  repeat' (first | refine tr_seq ?_ | refine tr_block ?_ | refine tr_skip ?_)
  refine tr_cond rfl (fun hc => ?_) (fun hc => ?_)
  · simp only [condT_tt, condT_ff, condF_tt, condF_ff, notE_t, notE_f, decide_eq_true_eq, decide_eq_false_iff_not] at hc
    have hk : 16 - k = (16 - (k + 1)) + 1 := by omega
    rw [hk] at h1 h2
    repeat' (first | refine tr_seq ?_ | refine tr_block ?_ | refine tr_skip ?_)
    first | refine reg (T := tab) tOk hnt rfl ?_ ?_ | refine regD (T := tab) tOk mixedR hnt rfl (by first | decide +kernel | kernel_rfl) ?_ ?_
    · (dsimp only [AllP]; (repeat' first | exact trivial | assumption | exact Nat.le_of_ble_eq_true rfl | apply And.intro | decide | intro _ | exact rfl))
    rw [ls]
    repeat' (first | refine tr_seq ?_ | refine tr_block ?_ | refine tr_skip ?_)
    refine tr_cond rfl (fun hc => ?_) (fun hc => ?_)
    · simp only [condT_tt, condT_ff, condF_tt, condF_ff, notE_t, notE_f, decide_eq_true_eq, decide_eq_false_iff_not] at hc
      rw [List.drop_eq_nil_of_le (by omega), hxL] at h1 h2
      have h1 : (hxL 16 r0 0).1 = 4 := h1
      have hR : hxR r0 = (4, 0) := by unfold hxR; rw [h1]; rfl
      rw [hR]
      repeat' (first | refine tr_seq ?_ | refine reg (T := tab) tOk hnt rfl ?_ ?_ | refine regD (T := tab) tOk mixedR hnt rfl (by first | decide +kernel | kernel_rfl) ?_ ?_ | refine tr_block ?_ | refine tr_skip ?_)
      · (dsimp only [AllP]; (repeat' first | exact trivial | assumption | exact Nat.le_of_ble_eq_true rfl | apply And.intro | decide | intro _ | exact rfl))
      exact tr_ret ⟨.inr rfl, _, _, rfl, trivial, rfl⟩
    simp only [condT_tt, condT_ff, condF_tt, condF_ff, notE_t, notE_f, decide_eq_true_eq, decide_eq_false_iff_not] at hc
    have hlt : k + 1 < s.length := by omega
    rw [drop_getD (d := 0) hlt, hxL] at h1 h2
    have hix := idx_fn ((strB s).data.toList.getD (Int.toNat ((k + 1 : Nat) : Int)) 0)
    have hx : (strB s).data.toList.getD (Int.toNat ((k + 1 : Nat) : Int)) 0 = s.getD (k + 1) 0 := by rw [strB_list, Int.toNat_natCast]
    have hI := hxI_some (s.getD (k + 1) 0)
    repeat' (first | refine tr_seq ?_ | refine tr_block ?_ | refine tr_skip ?_)
    refine tr_region (lex (T := tab) tOk hnt rfl ?_ (call rfl rfl rfl rfl rfl rfl rfl hnt (hix) (lex (T := tab) tOk hnt rfl ?_ (Lex.nil _)))) ?_
    · rw [ls]
      (dsimp only [AllP]; (repeat' first | exact trivial | assumption | exact Nat.le_of_ble_eq_true rfl | apply And.intro | exact eCells_len1 _ _ ‹_› | exact eCells_isByte _ _ ‹_› | (intro hh_; have hg_ := hh_; (try simp only [condT_ff, condF_tt, notE_t, notE_f, Bool.and_eq_true, ne_eq, decide_eq_true_eq, decide_eq_false_iff_not] at hg_)) | intro _ | exact rfl | omega))
    · (dsimp only [AllP]; (repeat' first | exact trivial | assumption | exact Nat.le_of_ble_eq_true rfl | apply And.intro | decide | intro _ | exact rfl))
    rw [hx]
    generalize s.getD (k + 1) 0 = c at *
    repeat' (first | refine tr_seq ?_ | refine reg (T := tab) tOk hnt rfl ?_ ?_ | refine regD (T := tab) tOk mixedR hnt rfl (by first | decide +kernel | kernel_rfl) ?_ ?_ | refine tr_block ?_ | refine tr_skip ?_)
    · (dsimp only [AllP]; (repeat' first | exact trivial | assumption | exact Nat.le_of_ble_eq_true rfl | apply And.intro | decide | intro _ | exact rfl))
    cases hD : hxD c with
    | none =>
      rw [hD] at h1 h2 hI
      have hI : hxI c = -1 := of_decide_eq_true hI
      rw [hI]
      repeat' (first | refine tr_seq ?_ | refine tr_block ?_ | refine tr_skip ?_)
      refine tr_cond rfl (fun hc => ?_) (fun hc => ?_)
      · have h1 : (hxL 16 r0 0).1 = 3 := h1
        have hR : hxR r0 = (3, 0) := by unfold hxR; rw [h1]; rfl
        rw [hR]
        repeat' (first | refine tr_seq ?_ | refine reg (T := tab) tOk hnt rfl ?_ ?_ | refine regD (T := tab) tOk mixedR hnt rfl (by first | decide +kernel | kernel_rfl) ?_ ?_ | refine tr_block ?_ | refine tr_skip ?_)
        · (dsimp only [AllP]; (repeat' first | exact trivial | assumption | exact Nat.le_of_ble_eq_true rfl | apply And.intro | decide | intro _ | exact rfl))
        exact tr_ret ⟨.inr rfl, _, _, rfl, trivial, rfl⟩
      · exact absurd (show true = false from hc) Bool.noConfusion
    | some d =>
      rw [hD] at h1 h2 hI
      have hI : (decide (hxI c = (d.toNat : Int)) && decide (d.toNat < 16)) = true := hI
      rw [Bool.and_eq_true, decide_eq_true_eq, decide_eq_true_eq] at hI
      rw [hI.1]
      repeat' (first | refine tr_seq ?_ | refine tr_block ?_ | refine tr_skip ?_)
      refine tr_cond rfl (fun hc => ?_) (fun hc => ?_)
      · simp only [condT_tt, condT_ff, condF_tt, condF_ff, notE_t, notE_f, decide_eq_true_eq, decide_eq_false_iff_not] at hc
        exact absurd hc (by omega)
      repeat' (first | refine tr_seq ?_ | refine reg (T := tab) tOk hnt rfl ?_ ?_ | refine regD (T := tab) tOk mixedR hnt rfl (by first | decide +kernel | kernel_rfl) ?_ ?_ | refine tr_block ?_ | refine tr_skip ?_)
      · (dsimp only [AllP]; (repeat' first | exact trivial | assumption | exact Nat.le_of_ble_eq_true rfl | apply And.intro | decide | intro _ | exact rfl))
      · (dsimp only [AllP]; (repeat' first | exact trivial | assumption | exact Nat.le_of_ble_eq_true rfl | apply And.intro | decide | intro _ | exact rfl))
      have hw : IntKind.u64.wrap (IntKind.u64.wrap ((n.toNat : Int) * 16) + IntKind.u64.wrap (d.toNat : Int)) = ((n <<< 4 ||| d).toNat : Int) := by
        rw [q_id]
        exact hx_add n d hI.2
      refine ⟨(k + 1, n <<< 4 ||| d), ⟨by dsimp only; omega, h1, h2⟩, by dsimp only; omega, le_of (ad := []) ⟨rfl, congrArg (fun z : Int => E.v (.int .u64 z)) hw, congrArg (fun z : Int => E.v (.int .i64 z)) (wrap64_id (n := ((k + 1 : Nat) : Int) + 1) (by omega) (by omega)), trivial⟩ trivial⟩
  simp only [condT_tt, condT_ff, condF_tt, condF_ff, notE_t, notE_f, decide_eq_true_eq, decide_eq_false_iff_not] at hc
  refine tr_exit ?_
  have hk : k = 16 := by omega
  subst hk
  rw [Nat.sub_self, hxL] at h1 h2
  have h1 : (hxL 16 r0 0).1 = 0 := h1
  have h2 : (hxL 16 r0 0).2.1 = n := h2
  have hck := chk_real0 n
  have hR : hxR r0 = if chk ⟨3, 0, n, []⟩ ≠ 0 then (3, 0) else (0, n) := by unfold hxR; rw [h1, h2]; rfl
  repeat' (first | refine tr_seq ?_ | refine tr_block ?_ | refine tr_skip ?_)
  refine tr_region (lex (T := tab) tOk hnt rfl ?_ (call rfl rfl rfl rfl rfl rfl rfl hnt ((badReal_fn n)) (lex (T := tab) tOk hnt rfl ?_ (Lex.nil _)))) ?_
  · (dsimp only [AllP]; (repeat' first | exact trivial | assumption | exact Nat.le_of_ble_eq_true rfl | apply And.intro | decide | intro _ | exact rfl))
  · (dsimp only [AllP]; (repeat' first | exact trivial | assumption | exact Nat.le_of_ble_eq_true rfl | apply And.intro | decide | intro _ | exact rfl))
  repeat' (first | refine tr_seq ?_ | refine tr_block ?_ | refine tr_skip ?_)
  refine tr_cond rfl (fun hc => ?_) (fun hc => ?_)
  · have hc : badQ n = true := hc
    rw [hc] at hck
    rw [if_pos (of_decide_eq_false hck)] at hR
    rw [hR]
    repeat' (first | refine tr_seq ?_ | refine reg (T := tab) tOk hnt rfl ?_ ?_ | refine regD (T := tab) tOk mixedR hnt rfl (by first | decide +kernel | kernel_rfl) ?_ ?_ | refine tr_block ?_ | refine tr_skip ?_)
    · (dsimp only [AllP]; (repeat' first | exact trivial | assumption | exact Nat.le_of_ble_eq_true rfl | apply And.intro | decide | intro _ | exact rfl))
    exact tr_ret ⟨.inr rfl, _, _, rfl, trivial, rfl⟩
  have hc : badQ n = false := hc
  rw [hc] at hck
  rw [if_neg (not_not_intro (of_decide_eq_true hck))] at hR
  rw [hR]
  repeat' (first | refine tr_seq ?_ | refine reg (T := tab) tOk hnt rfl ?_ ?_ | refine regD (T := tab) tOk mixedR hnt rfl (by first | decide +kernel | kernel_rfl) ?_ ?_ | refine tr_block ?_ | refine tr_skip ?_)
  · (dsimp only [AllP]; (repeat' first | exact trivial | assumption | exact Nat.le_of_ble_eq_true rfl | apply And.intro | decide | intro _ | exact rfl))
  exact tr_ret ⟨.inr rfl, _, _, rfl, trivial, rfl⟩
theorem strB_add (a b : Byt) : strB a ++ strB b = strB (a ++ b) := by
  apply ByteArray.ext
  simp [strB]
def quF (r : Byt) : Byt × Int × Int := match qsL r with
  | none => ([], 0, 4)
  | some z => if 40 < z.1.length then ([], 0, 1) else if vld z.1 = true then (z.1, (z.2 + 1 : Nat), 0) else ([], 0, 3)
def rQu (x : Byt × Int × Int) : D := .tup [(false, .es [eT x.1]), (false, .es [eI x.2.1]), (false, .es [eI x.2.2])]
set_option maxRecDepth 10000 in
set_option maxHeartbeats 2000000 in
theorem quoted_fn (s : Byt) (hs : s.length ≤ 300) : FnG Tryd.prog 96 gK [.one (.e (eT s))] (rQu (quF (s.drop 1))) := by
  refine fn_introG (T := tab) tOk Tryd.func96 rfl (by kernel_rfl) (by simp [Tryd.ntmps96]) ?_
  intro X hX
  have hnt : X.nt = 51 := hX
  clear hX
  have ls : (strB s).size = s.length := strB_size s
  generalize hr : s.drop 1 = r
  repeat' (first | refine tr_seq ?_ | refine reg (T := tab) tOk hnt rfl ?_ ?_ | refine regD (T := tab) tOk mixedR hnt rfl (by first | decide +kernel | kernel_rfl) ?_ ?_ | refine tr_block ?_ | refine tr_skip ?_)
  · (dsimp only [AllP]; (repeat' first | exact trivial | assumption | exact Nat.le_of_ble_eq_true rfl | apply And.intro | decide | intro _ | exact rfl))
  · (dsimp only [AllP]; (repeat' first | exact trivial | assumption | exact Nat.le_of_ble_eq_true rfl | apply And.intro | decide | intro _ | exact rfl))
  · (dsimp only [AllP]; (repeat' first | exact trivial | assumption | exact Nat.le_of_ble_eq_true rfl | apply And.intro | decide | intro _ | exact rfl))
  repeat' (first | refine tr_seq ?_ | refine tr_block ?_ | refine tr_skip ?_)
  refine tr_loop (σ := Nat × Byt) (fun x => St.of [(0, .one (.e (eT s))), (5, .one (.e (eT x.2))), (6, .one (.e (eI (x.1 : Int)))), ((1000000 + 0), .one (.eptr fsE)), ((1000000 + 1), .one (.eptr acE))] []) (fun x => 1 ≤ x.1 ∧ x.2.length ≤ x.1 ∧ qsL r = (qsL (s.drop x.1)).map (fun z => (x.2 ++ z.1, x.1 - 1 + z.2))) (fun x => s.length - x.1) ((1, [])) (le_of (ad := []) (by refine ⟨?_, ?_, ?_, ?_, ?_, trivial⟩ <;> first | exact trivial | rfl | exact ⟨rfl, rfl⟩ | exact ⟨rfl, rfl, rfl⟩ | exact ⟨rfl, rfl, rfl, rfl⟩ | exact ⟨rfl, rfl, rfl, rfl, rfl⟩ | exact congrArg (fun z : Int => E.v (.int .i64 z)) (wrap64_id (by omega) (by omega)) | exact congrArg (fun z : Int => E.v (.int .u8 z)) (by assumption) | exact congrArg (fun z : ByteArray => E.v (.string z)) (by assumption) | (refine ⟨rfl, ?_⟩; repeat' first | exact trivial | rfl | apply And.intro)) trivial) ⟨Nat.le_refl _, Nat.zero_le _, by dsimp only; rw [hr]; simp⟩ ?_
  rintro ⟨j, t⟩ ⟨j1, tl, hJ⟩
  dsimp only at j1 tl hJ ⊢
  have lt : (strB t).size = t.length := strB_size t
  repeat' (first | refine tr_seq ?_ | refine tr_block ?_ | refine tr_skip ?_)
  first | refine reg (T := tab) tOk hnt rfl ?_ ?_ | refine regD (T := tab) tOk mixedR hnt rfl (by first | decide +kernel | kernel_rfl) ?_ ?_
  · (dsimp only [AllP]; (repeat' first | exact trivial | assumption | exact Nat.le_of_ble_eq_true rfl | apply And.intro | decide | intro _ | exact rfl))
  rw [ls]
  repeat' (first | refine tr_seq ?_ | refine tr_block ?_ | refine tr_skip ?_)
  refine tr_cond rfl (fun hc => ?_) (fun hc => ?_)
  · simp only [condT_tt, condT_ff, condF_tt, condF_ff, notE_t, notE_f, decide_eq_true_eq, decide_eq_false_iff_not] at hc
    have hlt : j < s.length := by omega
    rw [drop_getD (d := 0) hlt] at hJ
    have hx : (strB s).data.toList.getD (Int.toNat (j : Int)) 0 = s.getD j 0 := by rw [strB_list, Int.toNat_natCast]
    have hwj : IntKind.i64.wrap ((j : Int) + 1) = ((j + 1 : Nat) : Int) := by rw [wrap64_id (by omega) (by omega)]; rfl
    repeat' (first | refine tr_seq ?_ | refine tr_block ?_ | refine tr_skip ?_)
    first | refine reg (T := tab) tOk hnt rfl ?_ ?_ | refine regD (T := tab) tOk mixedR hnt rfl (by first | decide +kernel | kernel_rfl) ?_ ?_
    · rw [ls]
      (dsimp only [AllP]; (repeat' first | exact trivial | assumption | exact Nat.le_of_ble_eq_true rfl | apply And.intro | exact eCells_len1 _ _ ‹_› | exact eCells_isByte _ _ ‹_› | (intro hh_; have hg_ := hh_; (try simp only [condT_ff, condF_tt, notE_t, notE_f, Bool.and_eq_true, ne_eq, decide_eq_true_eq, decide_eq_false_iff_not] at hg_)) | intro _ | exact rfl | omega))
    rw [hx]
    repeat' (first | refine tr_seq ?_ | refine tr_block ?_ | refine tr_skip ?_)
    refine tr_cond rfl (fun hc => ?_) (fun hc => ?_)
    · have hc : (!decide (((s.getD j 0).toNat : Int) = 39)) = true := hc
      rw [Bool.not_eq_true', decide_eq_false_iff_not] at hc
      rw [qsL_c (by omega), Option.map_map] at hJ
      have hex : strB t ++ (strB s).extract (Int.toNat (j : Int)) (Int.toNat (IntKind.i64.wrap ((j : Int) + 1))) = strB (t ++ [s.getD j 0]) := by
        rw [hwj, Int.toNat_natCast, Int.toNat_natCast, strB_extract, List.drop_take, Nat.add_sub_cancel_left, drop_getD (d := 0) hlt, strB_add]
        rfl
      have hsz : ((strB s).extract (Int.toNat (j : Int)) (Int.toNat (IntKind.i64.wrap ((j : Int) + 1)))).size = 1 := by
        rw [hwj, Int.toNat_natCast, Int.toNat_natCast, strB_extract, List.drop_take, Nat.add_sub_cancel_left, drop_getD (d := 0) hlt, strB_size]
        rfl
      have hmx : (strB t).size + ((strB s).extract (Int.toNat (j : Int)) (Int.toNat (IntKind.i64.wrap ((j : Int) + 1)))).size ≤ maxLen := by rw [hsz, lt]; simp only [maxLen]; omega
      have g1 : 0 ≤ IntKind.i64.wrap ((j : Int) + 1) := by rw [hwj]; omega
      have g2 : (j : Int) ≤ IntKind.i64.wrap ((j : Int) + 1) := by rw [hwj]; omega
      have g3 : IntKind.i64.wrap ((j : Int) + 1) ≤ (((strB s).size : Nat) : Int) := by rw [hwj, ls]; omega
      repeat' (first | refine tr_seq ?_ | refine tr_block ?_ | refine tr_skip ?_)
      first | refine reg (T := tab) tOk hnt rfl ?_ ?_ | refine regD (T := tab) tOk mixedR hnt rfl (by first | decide +kernel | kernel_rfl) ?_ ?_
      · (dsimp only [AllP]; (repeat' first | exact trivial | assumption | exact Nat.le_of_ble_eq_true rfl | apply And.intro | exact eCells_len1 _ _ ‹_› | exact eCells_isByte _ _ ‹_› | (intro hh_; have hg_ := hh_; (try simp only [condT_ff, condF_tt, notE_t, notE_f, Bool.and_eq_true, ne_eq, decide_eq_true_eq, decide_eq_false_iff_not] at hg_)) | intro _ | exact rfl | omega))
      rw [hex]
      refine tr_exit ?_
      repeat' (first | refine tr_seq ?_ | refine reg (T := tab) tOk hnt rfl ?_ ?_ | refine regD (T := tab) tOk mixedR hnt rfl (by first | decide +kernel | kernel_rfl) ?_ ?_ | refine tr_block ?_ | refine tr_skip ?_)
      · (dsimp only [AllP]; (repeat' first | exact trivial | assumption | exact Nat.le_of_ble_eq_true rfl | apply And.intro | decide | intro _ | exact rfl))
      generalize s.getD j 0 = c at *
      refine ⟨(j + 1, t ++ [c]), ⟨by dsimp only; omega, by dsimp only; rw [List.length_append]; show t.length + 1 ≤ j + 1; omega, ?_⟩, by dsimp only; omega, le_of (ad := []) ⟨rfl, rfl, congrArg (fun z : Int => E.v (.int .i64 z)) hwj, rfl, rfl, trivial⟩ trivial⟩
      dsimp only
      rw [hJ]
      congr 1
      funext z
      show (t ++ c :: z.1, j - 1 + (z.2 + 1)) = (t ++ [c] ++ z.1, j + 1 - 1 + z.2)
      rw [List.append_assoc, show j + 1 - 1 + z.2 = j - 1 + (z.2 + 1) by omega]
      rfl
    have hc : (!decide (((s.getD j 0).toNat : Int) = 39)) = false := hc
    rw [Bool.not_eq_false', decide_eq_true_eq] at hc
    have h39 : (s.getD j 0).toNat = 39 := by omega
    have hcx : (bif decide (IntKind.i64.wrap ((j : Int) + 1) < (((strB s).size : Nat) : Int)) then decide ((((strB s).data.toList.getD (Int.toNat (IntKind.i64.wrap ((j : Int) + 1))) 0).toNat : Int) = 39) else false) = decide (¬ (s.drop (j + 1) = [] ∨ ((s.drop (j + 1)).getD 0 0).toNat ≠ 39)) := by
      rw [hwj, strB_list, Int.toNat_natCast, strB_size]
      by_cases h : s.length ≤ j + 1
      · rw [decide_eq_false (by omega : ¬ ((j + 1 : Nat) : Int) < (s.length : Int)), cond_false]
        symm
        rw [decide_eq_false_iff_not]
        exact fun e => e (.inl (List.drop_eq_nil_of_le h))
      · rw [decide_eq_true (by omega : ((j + 1 : Nat) : Int) < (s.length : Int)), cond_true, drop_getD (d := 0) (by omega : j + 1 < s.length), List.getD_cons_zero]
        by_cases h2 : (s.getD (j + 1) 0).toNat = 39
        · rw [decide_eq_true (by omega : ((((s.getD (j + 1) 0).toNat : Nat) : Int) = 39))]
          symm
          rw [decide_eq_true_eq]
          exact fun e => e.elim (fun e => nomatch e) (fun e => e h2)
        · rw [decide_eq_false (by omega : ¬ ((((s.getD (j + 1) 0).toNat : Nat) : Int) = 39))]
          symm
          rw [decide_eq_false_iff_not]
          exact fun e => e (.inr h2)
    have g1 : 0 ≤ IntKind.i64.wrap ((j : Int) + 1) := by rw [hwj]; omega
    repeat' (first | refine tr_seq ?_ | refine tr_block ?_ | refine tr_skip ?_)
    first | refine reg (T := tab) tOk hnt rfl ?_ ?_ | refine regD (T := tab) tOk mixedR hnt rfl (by first | decide +kernel | kernel_rfl) ?_ ?_
    · (dsimp only [AllP]; (repeat' first | exact trivial | assumption | exact Nat.le_of_ble_eq_true rfl | apply And.intro | exact eCells_len1 _ _ ‹_› | exact eCells_isByte _ _ ‹_› | (intro hh_; have hg_ := hh_; (try simp only [condT_ff, condF_tt, notE_t, notE_f, Bool.and_eq_true, ne_eq, decide_eq_true_eq, decide_eq_false_iff_not] at hg_)) | intro _ | exact rfl | omega))
    repeat' (first | refine tr_seq ?_ | refine tr_block ?_ | refine tr_skip ?_)
    refine tr_cond rfl (fun hc => ?_) (fun hc => ?_)
    · have hc := of_decide_eq_true (hcx.symm.trans hc)
      have hj2 : j + 1 < s.length := by
        rcases Nat.lt_or_ge (j + 1) s.length with h | h
        · exact h
        · exact absurd (.inl (List.drop_eq_nil_of_le h)) hc
      have hd39 : (s.getD (j + 1) 0).toNat = 39 := by
        refine Classical.byContradiction fun h => hc (.inr ?_)
        rw [drop_getD (d := 0) hj2]
        exact h
      rw [drop_getD (d := 0) hj2, qsL_qq h39 hd39, Option.map_map] at hJ
      have hwj2 : IntKind.i64.wrap (IntKind.i64.wrap ((j : Int) + 1) + 1) = ((j + 1 + 1 : Nat) : Int) := by rw [hwj, wrap64_id (by omega) (by omega)]; rfl
      have hc39 : s.getD j 0 = 39 := UInt8.toNat_inj.1 h39
      rw [hc39] at hJ
      have hex : strB t ++ ⟨#[39]⟩ = strB (t ++ [39]) := strB_add t [39]
      have hmx : (strB t).size + (⟨#[39]⟩ : ByteArray).size ≤ maxLen := by rw [lt]; show t.length + 1 ≤ maxLen; simp only [maxLen]; omega
      repeat' (first | refine tr_seq ?_ | refine tr_block ?_ | refine tr_skip ?_)
      first | refine reg (T := tab) tOk hnt rfl ?_ ?_ | refine regD (T := tab) tOk mixedR hnt rfl (by first | decide +kernel | kernel_rfl) ?_ ?_
      · (dsimp only [AllP]; (repeat' first | exact trivial | assumption | exact Nat.le_of_ble_eq_true rfl | apply And.intro | exact eCells_len1 _ _ ‹_› | exact eCells_isByte _ _ ‹_› | (intro hh_; have hg_ := hh_; (try simp only [condT_ff, condF_tt, notE_t, notE_f, Bool.and_eq_true, ne_eq, decide_eq_true_eq, decide_eq_false_iff_not] at hg_)) | intro _ | exact rfl | omega))
      rw [hex]
      repeat' (first | refine tr_seq ?_ | refine reg (T := tab) tOk hnt rfl ?_ ?_ | refine regD (T := tab) tOk mixedR hnt rfl (by first | decide +kernel | kernel_rfl) ?_ ?_ | refine tr_block ?_ | refine tr_skip ?_)
      · (dsimp only [AllP]; (repeat' first | exact trivial | assumption | exact Nat.le_of_ble_eq_true rfl | apply And.intro | decide | intro _ | exact rfl))
      refine tr_exit ?_
      repeat' (first | refine tr_seq ?_ | refine reg (T := tab) tOk hnt rfl ?_ ?_ | refine regD (T := tab) tOk mixedR hnt rfl (by first | decide +kernel | kernel_rfl) ?_ ?_ | refine tr_block ?_ | refine tr_skip ?_)
      · (dsimp only [AllP]; (repeat' first | exact trivial | assumption | exact Nat.le_of_ble_eq_true rfl | apply And.intro | decide | intro _ | exact rfl))
      refine ⟨(j + 1 + 1, t ++ [39]), ⟨by dsimp only; omega, by dsimp only; rw [List.length_append]; show t.length + 1 ≤ j + 1 + 1; omega, ?_⟩, by dsimp only; omega, le_of (ad := []) ⟨rfl, rfl, congrArg (fun z : Int => E.v (.int .i64 z)) hwj2, rfl, rfl, trivial⟩ trivial⟩
      dsimp only
      rw [hJ]
      congr 1
      funext z
      show (t ++ 39 :: z.1, j - 1 + (z.2 + 2)) = (t ++ [39] ++ z.1, j + 1 + 1 - 1 + z.2)
      rw [List.append_assoc, show j + 1 + 1 - 1 + z.2 = j - 1 + (z.2 + 2) by omega]
      rfl
    have hc := Classical.not_not.1 (of_decide_eq_false (hcx.symm.trans hc))
    rw [qsL_q h39 hc] at hJ
    have hJ : qsL r = some (t, j - 1 + 1) := by rw [hJ]; show some (t ++ [], _) = _; rw [List.append_nil]
    have hF : quF r = if 40 < t.length then ([], 0, 1) else if vld t = true then (t, ((j - 1 + 1 + 1 : Nat) : Int), 0) else ([], 0, 3) := by unfold quF; rw [hJ]
    repeat' (first | refine tr_seq ?_ | refine tr_block ?_ | refine tr_skip ?_)
    first | refine reg (T := tab) tOk hnt rfl ?_ ?_ | refine regD (T := tab) tOk mixedR hnt rfl (by first | decide +kernel | kernel_rfl) ?_ ?_
    · (dsimp only [AllP]; (repeat' first | exact trivial | assumption | exact Nat.le_of_ble_eq_true rfl | apply And.intro | decide | intro _ | exact rfl))
    rw [lt]
    repeat' (first | refine tr_seq ?_ | refine tr_block ?_ | refine tr_skip ?_)
    refine tr_cond rfl (fun hc => ?_) (fun hc => ?_)
    · simp only [condT_tt, condT_ff, condF_tt, condF_ff, notE_t, notE_f, decide_eq_true_eq, decide_eq_false_iff_not] at hc
      rw [if_pos (by omega)] at hF
      rw [hF]
      repeat' (first | refine tr_seq ?_ | refine reg (T := tab) tOk hnt rfl ?_ ?_ | refine regD (T := tab) tOk mixedR hnt rfl (by first | decide +kernel | kernel_rfl) ?_ ?_ | refine tr_block ?_ | refine tr_skip ?_)
      · (dsimp only [AllP]; (repeat' first | exact trivial | assumption | exact Nat.le_of_ble_eq_true rfl | apply And.intro | decide | intro _ | exact rfl))
      exact tr_ret ⟨.inr rfl, _, _, rfl, trivial, rfl⟩
    simp only [condT_tt, condT_ff, condF_tt, condF_ff, notE_t, notE_f, decide_eq_true_eq, decide_eq_false_iff_not] at hc
    rw [if_neg (by omega)] at hF
    repeat' (first | refine tr_seq ?_ | refine tr_block ?_ | refine tr_skip ?_)
    refine tr_region (lex (T := tab) tOk hnt rfl ?_ (callV rfl rfl rfl rfl rfl rfl rfl hnt rfl ((valid_fn t)) (lex (T := tab) tOk hnt rfl ?_ (Lex.nil _)))) ?_
    · (dsimp only [AllP]; (repeat' first | exact trivial | assumption | exact Nat.le_of_ble_eq_true rfl | apply And.intro | decide | intro _ | exact rfl))
    · (dsimp only [AllP]; (repeat' first | exact trivial | assumption | exact Nat.le_of_ble_eq_true rfl | apply And.intro | decide | intro _ | exact rfl))
    repeat' (first | refine tr_seq ?_ | refine tr_block ?_ | refine tr_skip ?_)
    refine tr_cond rfl (fun hc => ?_) (fun hc => ?_)
    · have hc : (!vld t) = true := hc
      rw [Bool.not_eq_true'] at hc
      rw [if_neg (by rw [hc]; exact Bool.false_ne_true)] at hF
      rw [hF]
      repeat' (first | refine tr_seq ?_ | refine reg (T := tab) tOk hnt rfl ?_ ?_ | refine regD (T := tab) tOk mixedR hnt rfl (by first | decide +kernel | kernel_rfl) ?_ ?_ | refine tr_block ?_ | refine tr_skip ?_)
      · (dsimp only [AllP]; (repeat' first | exact trivial | assumption | exact Nat.le_of_ble_eq_true rfl | apply And.intro | decide | intro _ | exact rfl))
      exact tr_ret ⟨.inr rfl, _, _, rfl, trivial, rfl⟩
    have hc : (!vld t) = false := hc
    rw [Bool.not_eq_false'] at hc
    rw [if_pos hc] at hF
    rw [hF]
    repeat' (first | refine tr_seq ?_ | refine reg (T := tab) tOk hnt rfl ?_ ?_ | refine regD (T := tab) tOk mixedR hnt rfl (by first | decide +kernel | kernel_rfl) ?_ ?_ | refine tr_block ?_ | refine tr_skip ?_)
    · (dsimp only [AllP]; (repeat' first | exact trivial | assumption | exact Nat.le_of_ble_eq_true rfl | apply And.intro | decide | intro _ | exact rfl))
    refine tr_ret ⟨.inr rfl, _, _, rfl, trivial, ?_⟩
    refine congrArg (fun z : Int => D.tup [(false, .es [eT t]), (false, .es [.v (.int .i64 z)]), (false, .es [eI 0])]) ?_
    rw [hwj]
    show ((j + 1 : Nat) : Int) = ((j - 1 + 1 + 1 : Nat) : Int)
    omega
  simp only [condT_tt, condT_ff, condF_tt, condF_ff, notE_t, notE_f, decide_eq_true_eq, decide_eq_false_iff_not] at hc
  refine tr_exit ?_
  rw [List.drop_eq_nil_of_le (by omega), qsL] at hJ
  have hJ : qsL r = none := hJ
  have hF : quF r = ([], 0, 4) := by unfold quF; rw [hJ]
  rw [hF]
  repeat' (first | refine tr_seq ?_ | refine reg (T := tab) tOk hnt rfl ?_ ?_ | refine regD (T := tab) tOk mixedR hnt rfl (by first | decide +kernel | kernel_rfl) ?_ ?_ | refine tr_block ?_ | refine tr_skip ?_)
  · (dsimp only [AllP]; (repeat' first | exact trivial | assumption | exact Nat.le_of_ble_eq_true rfl | apply And.intro | decide | intro _ | exact rfl))
  exact tr_ret ⟨.inr rfl, _, _, rfl, trivial, rfl⟩
end Go.Proofs.YtphaholcndhonaaDoor
namespace Go.Proofs.YtphaholcndhonaaDoor
open Go Go.RowKit Go.Proofs.YtphaholcndhonaaDoor.Ab
set_option linter.unusedSimpArgs false
set_option linter.unusedVariables false

theorem rch_tw (q : UInt8 → Bool) : ∀ x : Byt, rchF q x = (x.takeWhile q).length
  | [] => rfl
  | a :: x => by
    rw [rchF, List.takeWhile_cons, rch_tw q x]
    cases q a <;> simp
def blT : Byt := [32, 9, 10]
theorem amg_bl : ∀ c, amg blT c = blB c := byte_all (by decide +kernel)
/-- blanks are passed over as one -/
theorem bl_tw : ∀ r : Byt, bl (r.dropWhile blB) = bl r
  | [] => rfl
  | c :: r => by
    rw [List.dropWhile_cons]
    cases h : blB c with
    | true => rw [if_pos rfl, bl_tw r, bl_b h]
    | false => rw [if_neg Bool.false_ne_true]
def skN (r : Byt) : Nat := r.length - (bl r).length
set_option maxRecDepth 10000 in
set_option maxHeartbeats 2000000 in
theorem skip_fn (s : Byt) (hs : s.length ≤ 300) : FnD Tryd.prog 46 [.one (.e (eT s))] (.one (.e (eI (skN s : Int)))) := by
  refine fn_intro (T := tab) tOk Tryd.func46 rfl (by kernel_rfl) (by simp [Tryd.ntmps46]) ?_
  intro X hX
  have hnt : X.nt = 44 := hX
  clear hX
  have ls : (strB s).size = s.length := strB_size s
  repeat' (first | refine tr_seq ?_ | refine reg (T := tab) tOk hnt rfl ?_ ?_ | refine regD (T := tab) tOk mixedR hnt rfl (by first | decide +kernel | kernel_rfl) ?_ ?_ | refine tr_block ?_ | refine tr_skip ?_)
  · (dsimp only [AllP]; (repeat' first | exact trivial | assumption | exact Nat.le_of_ble_eq_true rfl | apply And.intro | decide | intro _ | exact rfl))
  · (dsimp only [AllP]; (repeat' first | exact trivial | assumption | exact Nat.le_of_ble_eq_true rfl | apply And.intro | decide | intro _ | exact rfl))
  repeat' (first | refine tr_seq ?_ | refine tr_block ?_ | refine tr_skip ?_)
  refine tr_loop (σ := Nat) (fun j => St.of [(0, .one (.e (eT s))), (3, .one (.e (eI (j : Int))))] []) (fun j => j ≤ s.length ∧ bl (s.drop j) = bl s) (fun j => s.length - j) (0) (le_of (ad := []) (by refine ⟨?_, ?_, trivial⟩ <;> first | exact trivial | rfl | exact ⟨rfl, rfl⟩ | exact ⟨rfl, rfl, rfl⟩ | exact ⟨rfl, rfl, rfl, rfl⟩ | exact ⟨rfl, rfl, rfl, rfl, rfl⟩ | exact congrArg (fun z : Int => E.v (.int .i64 z)) (wrap64_id (by omega) (by omega)) | exact congrArg (fun z : Int => E.v (.int .u8 z)) (by assumption) | exact congrArg (fun z : ByteArray => E.v (.string z)) (by assumption) | (refine ⟨rfl, ?_⟩; repeat' first | exact trivial | rfl | apply And.intro)) trivial) ⟨Nat.zero_le _, rfl⟩ ?_
  rintro j ⟨jl, hJ⟩
  repeat' (first | refine tr_seq ?_ | refine tr_block ?_ | refine tr_skip ?_)
  first | refine reg (T := tab) tOk hnt rfl ?_ ?_ | refine regD (T := tab) tOk mixedR hnt rfl (by first | decide +kernel | kernel_rfl) ?_ ?_
  · (dsimp only [AllP]; (repeat' first | exact trivial | assumption | exact Nat.le_of_ble_eq_true rfl | apply And.intro | decide | intro _ | exact rfl))
  rw [ls]
  repeat' (first | refine tr_seq ?_ | refine tr_block ?_ | refine tr_skip ?_)
  refine tr_cond rfl (fun hc => ?_) (fun hc => ?_)
  · simp only [condT_tt, condT_ff, condF_tt, condF_ff, notE_t, notE_f, decide_eq_true_eq, decide_eq_false_iff_not] at hc
    have hlt : j < s.length := by omega
    have hre := reach_fn (s.drop j) blT (by rw [List.length_drop]; simp only [maxLen]; omega) (by decide)
    rw [show amg blT = blB from funext amg_bl, rch_tw] at hre
    rw [show eT (s.drop j) = E.v (.string ((strB s).extract (Int.toNat (j : Int)) (Int.toNat (((strB s).size : Nat) : Int)))) by rw [Int.toNat_natCast, strB_from]; rfl] at hre
    have hn : ((s.drop j).takeWhile blB).length ≤ s.length - j := by
      have := (List.takeWhile_sublist (l := s.drop j) blB).length_le
      rw [List.length_drop] at this
      exact this
    have hdw : s.drop (j + ((s.drop j).takeWhile blB).length) = (s.drop j).dropWhile blB := by rw [dw_drop, List.drop_drop]
    generalize hN : ((s.drop j).takeWhile blB).length = n at *
    repeat' (first | refine tr_seq ?_ | refine tr_block ?_ | refine tr_skip ?_)
    refine tr_region (lex (T := tab) tOk hnt rfl ?_ (call rfl rfl rfl rfl rfl rfl rfl hnt (hre) (lex (T := tab) tOk hnt rfl ?_ (Lex.nil _)))) ?_
    · rw [ls]
      (dsimp only [AllP]; (repeat' first | exact trivial | assumption | exact Nat.le_of_ble_eq_true rfl | apply And.intro | exact eCells_len1 _ _ ‹_› | exact eCells_isByte _ _ ‹_› | (intro hh_; have hg_ := hh_; (try simp only [condT_ff, condF_tt, notE_t, notE_f, Bool.and_eq_true, ne_eq, decide_eq_true_eq, decide_eq_false_iff_not] at hg_)) | intro _ | exact rfl | omega))
    · (dsimp only [AllP]; (repeat' first | exact trivial | assumption | exact Nat.le_of_ble_eq_true rfl | apply And.intro | decide | intro _ | exact rfl))
    repeat' (first | refine tr_seq ?_ | refine reg (T := tab) tOk hnt rfl ?_ ?_ | refine regD (T := tab) tOk mixedR hnt rfl (by first | decide +kernel | kernel_rfl) ?_ ?_ | refine tr_block ?_ | refine tr_skip ?_)
    · (dsimp only [AllP]; (repeat' first | exact trivial | assumption | exact Nat.le_of_ble_eq_true rfl | apply And.intro | decide | intro _ | exact rfl))
    repeat' (first | refine tr_seq ?_ | refine tr_block ?_ | refine tr_skip ?_)
    refine tr_cond rfl (fun hc => ?_) (fun hc => ?_)
    · simp only [condT_tt, condT_ff, condF_tt, condF_ff, notE_t, notE_f, decide_eq_true_eq, decide_eq_false_iff_not] at hc
      repeat' (first | refine tr_seq ?_ | refine reg (T := tab) tOk hnt rfl ?_ ?_ | refine regD (T := tab) tOk mixedR hnt rfl (by first | decide +kernel | kernel_rfl) ?_ ?_ | refine tr_block ?_ | refine tr_skip ?_)
      · (dsimp only [AllP]; (repeat' first | exact trivial | assumption | exact Nat.le_of_ble_eq_true rfl | apply And.intro | decide | intro _ | exact rfl))
      refine tr_exit ?_
      repeat' (first | refine tr_seq ?_ | refine tr_block ?_ | refine tr_skip ?_)
      refine ⟨j + n, ⟨by omega, by rw [hdw, bl_tw]; exact hJ⟩, by omega, le_of (ad := []) (by refine ⟨?_, ?_, trivial⟩ <;> first | exact trivial | rfl | exact ⟨rfl, rfl⟩ | exact ⟨rfl, rfl, rfl⟩ | exact ⟨rfl, rfl, rfl, rfl⟩ | exact ⟨rfl, rfl, rfl, rfl, rfl⟩ | exact congrArg (fun z : Int => E.v (.int .i64 z)) (wrap64_id (by omega) (by omega)) | exact congrArg (fun z : Int => E.v (.int .u8 z)) (by assumption) | exact congrArg (fun z : ByteArray => E.v (.string z)) (by assumption) | (refine ⟨rfl, ?_⟩; repeat' first | exact trivial | rfl | apply And.intro)) trivial⟩
    simp only [condT_tt, condT_ff, condF_tt, condF_ff, notE_t, notE_f, decide_eq_true_eq, decide_eq_false_iff_not] at hc
    have hn0 : n = 0 := by omega
    subst hn0
    have hcb : blB (s.getD j 0) = false := by
      cases h : blB (s.getD j 0) with
      | false => rfl
      | true =>
        rw [drop_getD (d := 0) hlt, List.takeWhile_cons, if_pos h] at hN
        cases hN
    have hwj : IntKind.i64.wrap ((s.length : Int) - (j : Int)) = ((s.length - j : Nat) : Int) := by rw [wrap64_id (by omega) (by omega)]; omega
    have hwj2 : IntKind.i64.wrap ((j : Int) + 2) = ((j + 2 : Nat) : Int) := by rw [wrap64_id (by omega) (by omega)]; rfl
    have hcx : (bif decide (IntKind.i64.wrap ((s.length : Int) - (j : Int)) < 2) then true else !strEq ((strB s).extract (Int.toNat (j : Int)) (Int.toNat (IntKind.i64.wrap ((j : Int) + 2)))) ⟨#[45, 45]⟩) = !decide (dd (s.drop j)) := by
      rw [hwj, hwj2, Int.toNat_natCast, Int.toNat_natCast, strB_extract, List.drop_take, Nat.add_sub_cancel_left]
      have he : strEq (strB ((s.drop j).take 2)) ⟨#[45, 45]⟩ = decide (dd (s.drop j)) := strEq_B _ [45, 45]
      rw [he]
      by_cases h : s.length - j < 2
      · rw [decide_eq_true (by omega : ((s.length - j : Nat) : Int) < 2), cond_true]
        symm
        rw [Bool.not_eq_true', decide_eq_false_iff_not]
        intro e
        have := congrArg List.length e
        rw [List.length_take, List.length_drop] at this
        simp at this
        omega
      · rw [decide_eq_false (by omega : ¬ ((s.length - j : Nat) : Int) < 2), cond_false]
    repeat' (first | refine tr_seq ?_ | refine tr_block ?_ | refine tr_skip ?_)
    repeat' (first | refine tr_seq ?_ | refine tr_block ?_ | refine tr_skip ?_)
    first | refine reg (T := tab) tOk hnt rfl ?_ ?_ | refine regD (T := tab) tOk mixedR hnt rfl (by first | decide +kernel | kernel_rfl) ?_ ?_
    · rw [ls, hwj2]
      have hg : ∀ {p : Prop}, (decide (IntKind.i64.wrap ((s.length : Int) - (j : Int)) < 2) = false → p) → (decide (IntKind.i64.wrap ((s.length : Int) - (j : Int)) < 2) = false → p) := fun h => h
      rw [hwj] at *
      (dsimp only [AllP]; (repeat' first | exact trivial | assumption | exact Nat.le_of_ble_eq_true rfl | apply And.intro | exact eCells_len1 _ _ ‹_› | exact eCells_isByte _ _ ‹_› | (intro hh_; have hg_ := hh_; (try simp only [condT_ff, condF_tt, notE_t, notE_f, Bool.and_eq_true, ne_eq, decide_eq_true_eq, decide_eq_false_iff_not] at hg_)) | intro _ | exact rfl | omega))
    rw [ls]
    repeat' (first | refine tr_seq ?_ | refine tr_block ?_ | refine tr_skip ?_)
    refine tr_cond rfl (fun hc => ?_) (fun hc => ?_)
    · have hc : (!decide (dd (s.drop j))) = true := hcx.symm.trans hc
      rw [Bool.not_eq_true', decide_eq_false_iff_not] at hc
      refine tr_exit ?_
      rw [drop_getD (d := 0) hlt] at hJ hc
      rw [bl_e hcb hc, ← drop_getD (d := 0) hlt] at hJ
      have hS : skN s = j := by unfold skN; rw [← hJ, List.length_drop]; omega
      rw [hS]
      repeat' (first | refine tr_seq ?_ | refine reg (T := tab) tOk hnt rfl ?_ ?_ | refine regD (T := tab) tOk mixedR hnt rfl (by first | decide +kernel | kernel_rfl) ?_ ?_ | refine tr_block ?_ | refine tr_skip ?_)
      · (dsimp only [AllP]; (repeat' first | exact trivial | assumption | exact Nat.le_of_ble_eq_true rfl | apply And.intro | decide | intro _ | exact rfl))
      exact tr_ret ⟨.inr rfl, _, _, rfl, trivial, rfl⟩
    have hd : (!decide (dd (s.drop j))) = false := hcx.symm.trans hc
    rw [Bool.not_eq_false', decide_eq_true_eq] at hd
    have hrl := rnL_le (q := nlB) (s := s) (i := j) jl
    have hdr : s.drop (j + rnL nlB s j) = (s.drop j).dropWhile nlB := by
      rw [dw_drop, List.drop_drop]
      rfl
    rw [drop_getD (d := 0) hlt] at hd hJ
    have hdd := dd_drop hd
    rw [bl_r hcb hd, ← drop_getD (d := 0) hlt, ← hdr] at hJ
    rw [← drop_getD (d := 0) hlt, ← hdr, List.length_drop, List.length_drop] at hdd
    repeat' (first | refine tr_seq ?_ | refine tr_block ?_ | refine tr_skip ?_)
    repeat' (first | refine tr_seq ?_ | refine tr_block ?_ | refine tr_skip ?_)
    refine tr_loop (σ := Nat) (fun m => St.of [(0, .one (.e (eT s))), (3, .one (.e (eI (m : Int))))] []) (fun m => m + rnL nlB s m = j + rnL nlB s j ∧ m ≤ s.length) (fun m => s.length - m) (j) (le_of (ad := []) (by refine ⟨?_, ?_, trivial⟩ <;> first | exact trivial | rfl | exact ⟨rfl, rfl⟩ | exact ⟨rfl, rfl, rfl⟩ | exact ⟨rfl, rfl, rfl, rfl⟩ | exact ⟨rfl, rfl, rfl, rfl, rfl⟩ | exact congrArg (fun z : Int => E.v (.int .i64 z)) (wrap64_id (by omega) (by omega)) | exact congrArg (fun z : Int => E.v (.int .u8 z)) (by assumption) | exact congrArg (fun z : ByteArray => E.v (.string z)) (by assumption) | (refine ⟨rfl, ?_⟩; repeat' first | exact trivial | rfl | apply And.intro)) trivial) ⟨rfl, jl⟩ ?_
    rintro m ⟨hm, ml⟩
    have hcm : (bif decide ((m : Int) < (((strB s).size : Nat) : Int)) then !decide ((((strB s).data.toList.getD (Int.toNat (m : Int)) 0).toNat : Int) = 10) else false) = decide (m < s.length ∧ nlB (s.getD m 0) = true) := by
      rw [strB_list, Int.toNat_natCast, strB_size]
      by_cases h : m < s.length
      · rw [decide_eq_true (by omega : (m : Int) < (s.length : Int)), cond_true]
        unfold nlB
        generalize s.getD m 0 = c
        by_cases h2 : c.toNat = 10
        · rw [decide_eq_true (by omega : (((c.toNat : Nat) : Int) = 10))]
          simp [h2]
        · rw [decide_eq_false (by omega : ¬ (((c.toNat : Nat) : Int) = 10))]
          simp [h, h2]
      · rw [decide_eq_false (by omega : ¬ (m : Int) < (s.length : Int)), cond_false, decide_eq_false (fun e => h e.1)]
    repeat' (first | refine tr_seq ?_ | refine tr_block ?_ | refine tr_skip ?_)
    first | refine reg (T := tab) tOk hnt rfl ?_ ?_ | refine regD (T := tab) tOk mixedR hnt rfl (by first | decide +kernel | kernel_rfl) ?_ ?_
    · (dsimp only [AllP]; (repeat' first | exact trivial | assumption | exact Nat.le_of_ble_eq_true rfl | apply And.intro | exact eCells_len1 _ _ ‹_› | exact eCells_isByte _ _ ‹_› | (intro hh_; have hg_ := hh_; (try simp only [condT_ff, condF_tt, notE_t, notE_f, Bool.and_eq_true, ne_eq, decide_eq_true_eq, decide_eq_false_iff_not] at hg_)) | intro _ | exact rfl | omega))
    repeat' (first | refine tr_seq ?_ | refine tr_block ?_ | refine tr_skip ?_)
    refine tr_cond rfl (fun hc => ?_) (fun hc => ?_)
    · have hc := of_decide_eq_true (hcm.symm.trans hc)
      have := rnL_s hc.1 hc.2
      repeat' (first | refine tr_seq ?_ | refine tr_block ?_ | refine tr_skip ?_)
      repeat' (first | refine tr_seq ?_ | refine tr_block ?_ | refine tr_skip ?_)
      first | refine reg (T := tab) tOk hnt rfl ?_ ?_ | refine regD (T := tab) tOk mixedR hnt rfl (by first | decide +kernel | kernel_rfl) ?_ ?_
      · (dsimp only [AllP]; (repeat' first | exact trivial | assumption | exact Nat.le_of_ble_eq_true rfl | apply And.intro | decide | intro _ | exact rfl))
      refine ⟨m + 1, ⟨by omega, by omega⟩, by omega, le_of (ad := []) (by refine ⟨?_, ?_, trivial⟩ <;> first | exact trivial | rfl | exact ⟨rfl, rfl⟩ | exact ⟨rfl, rfl, rfl⟩ | exact ⟨rfl, rfl, rfl, rfl⟩ | exact ⟨rfl, rfl, rfl, rfl, rfl⟩ | exact congrArg (fun z : Int => E.v (.int .i64 z)) (wrap64_id (by omega) (by omega)) | exact congrArg (fun z : Int => E.v (.int .u8 z)) (by assumption) | exact congrArg (fun z : ByteArray => E.v (.string z)) (by assumption) | (refine ⟨rfl, ?_⟩; repeat' first | exact trivial | rfl | apply And.intro)) trivial⟩
    have hc := of_decide_eq_false (hcm.symm.trans hc)
    have h0 := rnL_e hc
    rw [h0, Nat.add_zero] at hm
    refine tr_exit ?_
    repeat' (first | refine tr_seq ?_ | refine tr_block ?_ | refine tr_skip ?_)
    refine ⟨m, ⟨ml, by rw [hm]; exact hJ⟩, by omega, le_of (ad := []) (by refine ⟨?_, ?_, trivial⟩ <;> first | exact trivial | rfl | exact ⟨rfl, rfl⟩ | exact ⟨rfl, rfl, rfl⟩ | exact ⟨rfl, rfl, rfl, rfl⟩ | exact ⟨rfl, rfl, rfl, rfl, rfl⟩ | exact congrArg (fun z : Int => E.v (.int .i64 z)) (wrap64_id (by omega) (by omega)) | exact congrArg (fun z : Int => E.v (.int .u8 z)) (by assumption) | exact congrArg (fun z : ByteArray => E.v (.string z)) (by assumption) | (refine ⟨rfl, ?_⟩; repeat' first | exact trivial | rfl | apply And.intro)) trivial⟩
  simp only [condT_tt, condT_ff, condF_tt, condF_ff, notE_t, notE_f, decide_eq_true_eq, decide_eq_false_iff_not] at hc
  refine tr_exit ?_
  have hS : skN s = j := by
    rw [List.drop_eq_nil_of_le (by omega), bl_nil] at hJ
    unfold skN
    rw [← hJ]
    show s.length - 0 = j
    omega
  rw [hS]
  repeat' (first | refine tr_seq ?_ | refine reg (T := tab) tOk hnt rfl ?_ ?_ | refine regD (T := tab) tOk mixedR hnt rfl (by first | decide +kernel | kernel_rfl) ?_ ?_ | refine tr_block ?_ | refine tr_skip ?_)
  · (dsimp only [AllP]; (repeat' first | exact trivial | assumption | exact Nat.le_of_ble_eq_true rfl | apply And.intro | decide | intro _ | exact rfl))
  exact tr_ret ⟨.inr rfl, _, _, rfl, trivial, rfl⟩
end Go.Proofs.YtphaholcndhonaaDoor
namespace Go.Proofs.YtphaholcndhonaaDoor
open Go Go.RowKit Go.Proofs.YtphaholcndhonaaDoor.Ab
set_option linter.unusedSimpArgs false
set_option linter.unusedVariables false

/-- the first token of a text: what it is, how many bytes it has, what is wrong -/
def fsX (r : Byt) : Tok × Int × Int :=
  if smallB (r.getD 0 0) = true then (if 8 < (r.takeWhile nameB).length then (tok0, 0, 1) else (⟨1, r.takeWhile nameB, 0, 0⟩, ((r.takeWhile nameB).length : Int), 0))
  else if greatB (r.getD 0 0) = true then (if 8 < (r.takeWhile greatB).length then (tok0, 0, 1) else (⟨2, r.takeWhile greatB, 0, 0⟩, ((r.takeWhile greatB).length : Int), 0))
  else if digitB (r.getD 0 0) = true then (⟨3, [], ((numR (r.takeWhile digitB)).1 : Int), 0⟩, ((r.takeWhile digitB).length : Int), (numR (r.takeWhile digitB)).2)
  else if (r.getD 0 0).toNat = 39 then (⟨4, (quF (r.drop 1)).1, 0, 0⟩, (quF (r.drop 1)).2.1, (quF (r.drop 1)).2.2)
  else if (r.getD 0 0).toNat = 35 then (⟨5, [], 0, (hxR (r.drop 1)).2⟩, 17, (hxR (r.drop 1)).1)
  else if 2 ≤ r.length ∧ isSg (r.take 2) = true then (⟨6, r.take 2, 0, 0⟩, 2, 0)
  else if isSg (r.take 1) = true then (⟨6, r.take 1, 0, 0⟩, 1, 0)
  else (tok0, 0, 3)
def rFs (x : Tok × Int × Int) : D := .tup [(true, .es (eTok x.1)), (false, .es [eI x.2.1]), (false, .es [eI x.2.2])]
theorem funext_small : ∀ c, amg smalls c = smallB c := amg_small
set_option maxRecDepth 10000 in
set_option maxHeartbeats 2000000 in
theorem first_fn (r : Byt) (hr : r ≠ []) (hs : r.length ≤ 300) : FnG Tryd.prog 47 gK [.one (.e (eT r))] (rFs (fsX r)) := by
  refine fn_introG (T := tab) tOk Tryd.func47 rfl (by kernel_rfl) (by simp [Tryd.ntmps47]) ?_
  intro X hX
  have hnt : X.nt = 106 := hX
  clear hX
  have lr : (strB r).size = r.length := strB_size r
  have hpos : 0 < r.length := List.length_pos_iff.2 hr
  have hX : fsX r = fsX r := rfl
  conv at hX => rhs; unfold fsX
  generalize fsX r = Z at *
  repeat' (first | refine tr_seq ?_ | refine tr_block ?_ | refine tr_skip ?_)
  first | refine reg (T := tab) tOk hnt rfl ?_ ?_ | refine regD (T := tab) tOk mixedR hnt rfl (by first | decide +kernel | kernel_rfl) ?_ ?_
  · (dsimp only [AllP]; (repeat' first | exact trivial | assumption | exact Nat.le_of_ble_eq_true rfl | apply And.intro | decide | intro _ | exact rfl))
  have hx0 : (strB r).data.toList.getD (Int.toNat 0) 0 = r.getD 0 0 := by rw [strB_list]; rfl
  have h1 := among_fn ((strB r).data.toList.getD (Int.toNat 0) 0) smalls (by decide)
  have h2 := among_fn ((strB r).data.toList.getD (Int.toNat 0) 0) greats (by decide)
  have h3 := among_fn ((strB r).data.toList.getD (Int.toNat 0) 0) digits (by decide)
  rw [amg_small, show smallB ((strB r).data.toList.getD (Int.toNat 0) 0) = smallB (r.getD 0 0) by rw [hx0]] at h1
  rw [amg_great, show greatB ((strB r).data.toList.getD (Int.toNat 0) 0) = greatB (r.getD 0 0) by rw [hx0]] at h2
  rw [amg_digit, show digitB ((strB r).data.toList.getD (Int.toNat 0) 0) = digitB (r.getD 0 0) by rw [hx0]] at h3
  repeat' (first | refine tr_seq ?_ | refine tr_block ?_ | refine tr_skip ?_)
  refine tr_region (lex (T := tab) tOk hnt rfl ?_ (call rfl rfl rfl rfl rfl rfl rfl hnt (h1) (lex (T := tab) tOk hnt rfl ?_ (Lex.nil _)))) ?_
  · rw [lr]
    (dsimp only [AllP]; (repeat' first | exact trivial | assumption | exact Nat.le_of_ble_eq_true rfl | apply And.intro | exact eCells_len1 _ _ ‹_› | exact eCells_isByte _ _ ‹_› | (intro hh_; have hg_ := hh_; (try simp only [condT_ff, condF_tt, notE_t, notE_f, Bool.and_eq_true, ne_eq, decide_eq_true_eq, decide_eq_false_iff_not] at hg_)) | intro _ | exact rfl | omega))
  · (dsimp only [AllP]; (repeat' first | exact trivial | assumption | exact Nat.le_of_ble_eq_true rfl | apply And.intro | decide | intro _ | exact rfl))
  repeat' (first | refine tr_seq ?_ | refine tr_block ?_ | refine tr_skip ?_)
  refine tr_cond rfl (fun hc => ?_) (fun hc => ?_)
  · have hc : smallB (r.getD 0 0) = true := hc
    rw [if_pos hc] at hX
    have hre := reach_fn r names (by simp only [maxLen]; omega) (by decide)
    rw [show amg names = nameB from funext amg_name, rch_tw] at hre
    have hle := (List.takeWhile_sublist (l := r) nameB).length_le
    have htt := tw_take nameB r
    generalize (r.takeWhile nameB).length = n at *
    repeat' (first | refine tr_seq ?_ | refine tr_block ?_ | refine tr_skip ?_)
    refine tr_region (lex (T := tab) tOk hnt rfl ?_ (call rfl rfl rfl rfl rfl rfl rfl hnt (hre) (lex (T := tab) tOk hnt rfl ?_ (Lex.nil _)))) ?_
    · (dsimp only [AllP]; (repeat' first | exact trivial | assumption | exact Nat.le_of_ble_eq_true rfl | apply And.intro | decide | intro _ | exact rfl))
    · (dsimp only [AllP]; (repeat' first | exact trivial | assumption | exact Nat.le_of_ble_eq_true rfl | apply And.intro | decide | intro _ | exact rfl))
    repeat' (first | refine tr_seq ?_ | refine tr_block ?_ | refine tr_skip ?_)
    first | refine reg (T := tab) tOk hnt rfl ?_ ?_ | refine regD (T := tab) tOk mixedR hnt rfl (by first | decide +kernel | kernel_rfl) ?_ ?_
    · (dsimp only [AllP]; (repeat' first | exact trivial | assumption | exact Nat.le_of_ble_eq_true rfl | apply And.intro | decide | intro _ | exact rfl))
    repeat' (first | refine tr_seq ?_ | refine tr_block ?_ | refine tr_skip ?_)
    refine tr_cond rfl (fun hc => ?_) (fun hc => ?_)
    · simp only [condT_tt, condT_ff, condF_tt, condF_ff, notE_t, notE_f, decide_eq_true_eq, decide_eq_false_iff_not] at hc
      rw [if_pos (by omega)] at hX
      cases hX
      repeat' (first | refine tr_seq ?_ | refine reg (T := tab) tOk hnt rfl ?_ ?_ | refine regD (T := tab) tOk mixedR hnt rfl (by first | decide +kernel | kernel_rfl) ?_ ?_ | refine tr_block ?_ | refine tr_skip ?_)
      · (dsimp only [AllP]; (repeat' first | exact trivial | assumption | exact Nat.le_of_ble_eq_true rfl | apply And.intro | decide | intro _ | exact rfl))
      exact tr_ret ⟨.inr rfl, _, _, rfl, by (repeat' first | exact trivial | exact Nat.le_of_ble_eq_true rfl | apply And.intro), rfl⟩
    simp only [condT_tt, condT_ff, condF_tt, condF_ff, notE_t, notE_f, decide_eq_true_eq, decide_eq_false_iff_not] at hc
    rw [if_neg (by omega)] at hX
    cases hX
    have hex : (strB r).extract (Int.toNat 0) (Int.toNat (n : Int)) = strB (r.takeWhile nameB) := by
      rw [strB_extract, Int.toNat_natCast, htt]
      rfl
    repeat' (first | refine tr_seq ?_ | refine tr_block ?_ | refine tr_skip ?_)
    first | refine reg (T := tab) tOk hnt rfl ?_ ?_ | refine regD (T := tab) tOk mixedR hnt rfl (by first | decide +kernel | kernel_rfl) ?_ ?_
    · rw [lr]
      (dsimp only [AllP]; (repeat' first | exact trivial | assumption | exact Nat.le_of_ble_eq_true rfl | apply And.intro | exact eCells_len1 _ _ ‹_› | exact eCells_isByte _ _ ‹_› | (intro hh_; have hg_ := hh_; (try simp only [condT_ff, condF_tt, notE_t, notE_f, Bool.and_eq_true, ne_eq, decide_eq_true_eq, decide_eq_false_iff_not] at hg_)) | intro _ | exact rfl | omega))
    refine tr_ret ⟨.inr rfl, _, _, rfl, by (repeat' first | exact trivial | exact Nat.le_of_ble_eq_true rfl | apply And.intro), ?_⟩
    exact congrArg (fun z : ByteArray => D.tup [(true, .es [eI 1, .v (.string z), eI 0, eQ 0]), (false, .es [eI (n : Int)]), (false, .es [eI 0])]) hex
  have hc : smallB (r.getD 0 0) = false := hc
  rw [if_neg (by rw [hc]; exact Bool.false_ne_true)] at hX
  repeat' (first | refine tr_seq ?_ | refine tr_block ?_ | refine tr_skip ?_)
  refine tr_region (lex (T := tab) tOk hnt rfl ?_ (call rfl rfl rfl rfl rfl rfl rfl hnt (h2) (lex (T := tab) tOk hnt rfl ?_ (Lex.nil _)))) ?_
  · rw [lr]
    (dsimp only [AllP]; (repeat' first | exact trivial | assumption | exact Nat.le_of_ble_eq_true rfl | apply And.intro | exact eCells_len1 _ _ ‹_› | exact eCells_isByte _ _ ‹_› | (intro hh_; have hg_ := hh_; (try simp only [condT_ff, condF_tt, notE_t, notE_f, Bool.and_eq_true, ne_eq, decide_eq_true_eq, decide_eq_false_iff_not] at hg_)) | intro _ | exact rfl | omega))
  · (dsimp only [AllP]; (repeat' first | exact trivial | assumption | exact Nat.le_of_ble_eq_true rfl | apply And.intro | decide | intro _ | exact rfl))
  repeat' (first | refine tr_seq ?_ | refine tr_block ?_ | refine tr_skip ?_)
  refine tr_cond rfl (fun hc => ?_) (fun hc => ?_)
  · have hc : greatB (r.getD 0 0) = true := hc
    rw [if_pos hc] at hX
    have hre := reach_fn r greats (by simp only [maxLen]; omega) (by decide)
    rw [show amg greats = greatB from funext amg_great, rch_tw] at hre
    have hle := (List.takeWhile_sublist (l := r) greatB).length_le
    have htt := tw_take greatB r
    generalize (r.takeWhile greatB).length = n at *
    repeat' (first | refine tr_seq ?_ | refine tr_block ?_ | refine tr_skip ?_)
    refine tr_region (lex (T := tab) tOk hnt rfl ?_ (call rfl rfl rfl rfl rfl rfl rfl hnt (hre) (lex (T := tab) tOk hnt rfl ?_ (Lex.nil _)))) ?_
    · (dsimp only [AllP]; (repeat' first | exact trivial | assumption | exact Nat.le_of_ble_eq_true rfl | apply And.intro | decide | intro _ | exact rfl))
    · (dsimp only [AllP]; (repeat' first | exact trivial | assumption | exact Nat.le_of_ble_eq_true rfl | apply And.intro | decide | intro _ | exact rfl))
    repeat' (first | refine tr_seq ?_ | refine tr_block ?_ | refine tr_skip ?_)
    first | refine reg (T := tab) tOk hnt rfl ?_ ?_ | refine regD (T := tab) tOk mixedR hnt rfl (by first | decide +kernel | kernel_rfl) ?_ ?_
    · (dsimp only [AllP]; (repeat' first | exact trivial | assumption | exact Nat.le_of_ble_eq_true rfl | apply And.intro | decide | intro _ | exact rfl))
    repeat' (first | refine tr_seq ?_ | refine tr_block ?_ | refine tr_skip ?_)
    refine tr_cond rfl (fun hc => ?_) (fun hc => ?_)
    · simp only [condT_tt, condT_ff, condF_tt, condF_ff, notE_t, notE_f, decide_eq_true_eq, decide_eq_false_iff_not] at hc
      rw [if_pos (by omega)] at hX
      cases hX
      repeat' (first | refine tr_seq ?_ | refine reg (T := tab) tOk hnt rfl ?_ ?_ | refine regD (T := tab) tOk mixedR hnt rfl (by first | decide +kernel | kernel_rfl) ?_ ?_ | refine tr_block ?_ | refine tr_skip ?_)
      · (dsimp only [AllP]; (repeat' first | exact trivial | assumption | exact Nat.le_of_ble_eq_true rfl | apply And.intro | decide | intro _ | exact rfl))
      exact tr_ret ⟨.inr rfl, _, _, rfl, by (repeat' first | exact trivial | exact Nat.le_of_ble_eq_true rfl | apply And.intro), rfl⟩
    simp only [condT_tt, condT_ff, condF_tt, condF_ff, notE_t, notE_f, decide_eq_true_eq, decide_eq_false_iff_not] at hc
    rw [if_neg (by omega)] at hX
    cases hX
    have hex : (strB r).extract (Int.toNat 0) (Int.toNat (n : Int)) = strB (r.takeWhile greatB) := by
      rw [strB_extract, Int.toNat_natCast, htt]
      rfl
    repeat' (first | refine tr_seq ?_ | refine tr_block ?_ | refine tr_skip ?_)
    first | refine reg (T := tab) tOk hnt rfl ?_ ?_ | refine regD (T := tab) tOk mixedR hnt rfl (by first | decide +kernel | kernel_rfl) ?_ ?_
    · rw [lr]
      (dsimp only [AllP]; (repeat' first | exact trivial | assumption | exact Nat.le_of_ble_eq_true rfl | apply And.intro | exact eCells_len1 _ _ ‹_› | exact eCells_isByte _ _ ‹_› | (intro hh_; have hg_ := hh_; (try simp only [condT_ff, condF_tt, notE_t, notE_f, Bool.and_eq_true, ne_eq, decide_eq_true_eq, decide_eq_false_iff_not] at hg_)) | intro _ | exact rfl | omega))
    refine tr_ret ⟨.inr rfl, _, _, rfl, by (repeat' first | exact trivial | exact Nat.le_of_ble_eq_true rfl | apply And.intro), ?_⟩
    exact congrArg (fun z : ByteArray => D.tup [(true, .es [eI 2, .v (.string z), eI 0, eQ 0]), (false, .es [eI (n : Int)]), (false, .es [eI 0])]) hex
  have hc : greatB (r.getD 0 0) = false := hc
  rw [if_neg (by rw [hc]; exact Bool.false_ne_true)] at hX
  repeat' (first | refine tr_seq ?_ | refine tr_block ?_ | refine tr_skip ?_)
  refine tr_region (lex (T := tab) tOk hnt rfl ?_ (call rfl rfl rfl rfl rfl rfl rfl hnt (h3) (lex (T := tab) tOk hnt rfl ?_ (Lex.nil _)))) ?_
  · rw [lr]
    (dsimp only [AllP]; (repeat' first | exact trivial | assumption | exact Nat.le_of_ble_eq_true rfl | apply And.intro | exact eCells_len1 _ _ ‹_› | exact eCells_isByte _ _ ‹_› | (intro hh_; have hg_ := hh_; (try simp only [condT_ff, condF_tt, notE_t, notE_f, Bool.and_eq_true, ne_eq, decide_eq_true_eq, decide_eq_false_iff_not] at hg_)) | intro _ | exact rfl | omega))
  · (dsimp only [AllP]; (repeat' first | exact trivial | assumption | exact Nat.le_of_ble_eq_true rfl | apply And.intro | decide | intro _ | exact rfl))
  repeat' (first | refine tr_seq ?_ | refine tr_block ?_ | refine tr_skip ?_)
  refine tr_cond rfl (fun hc => ?_) (fun hc => ?_)
  · have hc : digitB (r.getD 0 0) = true := hc
    rw [if_pos hc] at hX
    have hre := reach_fn r digits (by simp only [maxLen]; omega) (by decide)
    rw [show amg digits = digitB from funext amg_digit, rch_tw] at hre
    have hle := (List.takeWhile_sublist (l := r) digitB).length_le
    have htt := tw_take digitB r
    have hdg := digitsOf_fn (r.takeWhile digitB) (digT r 0) (by omega)
    rw [show eT (r.takeWhile digitB) = E.v (.string ((strB r).extract (Int.toNat 0) (Int.toNat (((r.takeWhile digitB).length : Nat) : Int)))) by rw [strB_extract, Int.toNat_natCast, htt]; rfl] at hdg
    generalize (r.takeWhile digitB).length = n at *
    repeat' (first | refine tr_seq ?_ | refine tr_block ?_ | refine tr_skip ?_)
    refine tr_region (lex (T := tab) tOk hnt rfl ?_ (call rfl rfl rfl rfl rfl rfl rfl hnt (hre) (lex (T := tab) tOk hnt rfl ?_ (Lex.nil _)))) ?_
    · (dsimp only [AllP]; (repeat' first | exact trivial | assumption | exact Nat.le_of_ble_eq_true rfl | apply And.intro | decide | intro _ | exact rfl))
    · (dsimp only [AllP]; (repeat' first | exact trivial | assumption | exact Nat.le_of_ble_eq_true rfl | apply And.intro | decide | intro _ | exact rfl))
    unfold rNu at hdg
    repeat' (first | refine tr_seq ?_ | refine tr_block ?_ | refine tr_skip ?_)
    refine tr_region (lex (T := tab) tOk hnt rfl ?_ (call rfl rfl rfl rfl rfl rfl rfl hnt (hdg) (lex (T := tab) tOk hnt rfl ?_ (Lex.nil _)))) ?_
    · rw [lr]
      (dsimp only [AllP]; (repeat' first | exact trivial | assumption | exact Nat.le_of_ble_eq_true rfl | apply And.intro | exact eCells_len1 _ _ ‹_› | exact eCells_isByte _ _ ‹_› | (intro hh_; have hg_ := hh_; (try simp only [condT_ff, condF_tt, notE_t, notE_f, Bool.and_eq_true, ne_eq, decide_eq_true_eq, decide_eq_false_iff_not] at hg_)) | intro _ | exact rfl | omega))
    · (dsimp only [AllP]; (repeat' first | exact trivial | assumption | exact Nat.le_of_ble_eq_true rfl | apply And.intro | decide | intro _ | exact rfl))
    cases hX
    repeat' (first | refine tr_seq ?_ | refine reg (T := tab) tOk hnt rfl ?_ ?_ | refine regD (T := tab) tOk mixedR hnt rfl (by first | decide +kernel | kernel_rfl) ?_ ?_ | refine tr_block ?_ | refine tr_skip ?_)
    · (dsimp only [AllP]; (repeat' first | exact trivial | assumption | exact Nat.le_of_ble_eq_true rfl | apply And.intro | decide | intro _ | exact rfl))
    exact tr_ret ⟨.inr rfl, _, _, rfl, by (repeat' first | exact trivial | exact Nat.le_of_ble_eq_true rfl | apply And.intro), rfl⟩
  have hc : digitB (r.getD 0 0) = false := hc
  rw [if_neg (by rw [hc]; exact Bool.false_ne_true)] at hX
  repeat' (first | refine tr_seq ?_ | refine tr_block ?_ | refine tr_skip ?_)
  first | refine reg (T := tab) tOk hnt rfl ?_ ?_ | refine regD (T := tab) tOk mixedR hnt rfl (by first | decide +kernel | kernel_rfl) ?_ ?_
  · rw [lr]
    (dsimp only [AllP]; (repeat' first | exact trivial | assumption | exact Nat.le_of_ble_eq_true rfl | apply And.intro | exact eCells_len1 _ _ ‹_› | exact eCells_isByte _ _ ‹_› | (intro hh_; have hg_ := hh_; (try simp only [condT_ff, condF_tt, notE_t, notE_f, Bool.and_eq_true, ne_eq, decide_eq_true_eq, decide_eq_false_iff_not] at hg_)) | intro _ | exact rfl | omega))
  rw [hx0]
  repeat' (first | refine tr_seq ?_ | refine tr_block ?_ | refine tr_skip ?_)
  refine tr_cond rfl (fun hc => ?_) (fun hc => ?_)
  · simp only [condT_tt, condT_ff, condF_tt, condF_ff, notE_t, notE_f, decide_eq_true_eq, decide_eq_false_iff_not] at hc
    rw [if_pos (by omega)] at hX
    cases hX
    have hq := quoted_fn r hs
    unfold rQu at hq
    repeat' (first | refine tr_seq ?_ | refine tr_block ?_ | refine tr_skip ?_)
    refine tr_region (lex (T := tab) tOk hnt rfl ?_ (callV rfl rfl rfl rfl rfl rfl rfl hnt rfl (hq) (lex (T := tab) tOk hnt rfl ?_ (Lex.nil _)))) ?_
    · (dsimp only [AllP]; (repeat' first | exact trivial | assumption | exact Nat.le_of_ble_eq_true rfl | apply And.intro | decide | intro _ | exact rfl))
    · (dsimp only [AllP]; (repeat' first | exact trivial | assumption | exact Nat.le_of_ble_eq_true rfl | apply And.intro | decide | intro _ | exact rfl))
    repeat' (first | refine tr_seq ?_ | refine reg (T := tab) tOk hnt rfl ?_ ?_ | refine regD (T := tab) tOk mixedR hnt rfl (by first | decide +kernel | kernel_rfl) ?_ ?_ | refine tr_block ?_ | refine tr_skip ?_)
    · (dsimp only [AllP]; (repeat' first | exact trivial | assumption | exact Nat.le_of_ble_eq_true rfl | apply And.intro | decide | intro _ | exact rfl))
    exact tr_ret ⟨.inr rfl, _, _, rfl, by (repeat' first | exact trivial | exact Nat.le_of_ble_eq_true rfl | apply And.intro), rfl⟩
  simp only [condT_tt, condT_ff, condF_tt, condF_ff, notE_t, notE_f, decide_eq_true_eq, decide_eq_false_iff_not] at hc
  rw [if_neg (by omega)] at hX
  repeat' (first | refine tr_seq ?_ | refine tr_block ?_ | refine tr_skip ?_)
  first | refine reg (T := tab) tOk hnt rfl ?_ ?_ | refine regD (T := tab) tOk mixedR hnt rfl (by first | decide +kernel | kernel_rfl) ?_ ?_
  · rw [lr]
    (dsimp only [AllP]; (repeat' first | exact trivial | assumption | exact Nat.le_of_ble_eq_true rfl | apply And.intro | exact eCells_len1 _ _ ‹_› | exact eCells_isByte _ _ ‹_› | (intro hh_; have hg_ := hh_; (try simp only [condT_ff, condF_tt, notE_t, notE_f, Bool.and_eq_true, ne_eq, decide_eq_true_eq, decide_eq_false_iff_not] at hg_)) | intro _ | exact rfl | omega))
  rw [hx0]
  repeat' (first | refine tr_seq ?_ | refine tr_block ?_ | refine tr_skip ?_)
  refine tr_cond rfl (fun hc => ?_) (fun hc => ?_)
  · simp only [condT_tt, condT_ff, condF_tt, condF_ff, notE_t, notE_f, decide_eq_true_eq, decide_eq_false_iff_not] at hc
    rw [if_pos (by omega)] at hX
    cases hX
    have hq := hexed_fn r hs
    unfold rHd at hq
    repeat' (first | refine tr_seq ?_ | refine tr_block ?_ | refine tr_skip ?_)
    refine tr_region (lex (T := tab) tOk hnt rfl ?_ (call rfl rfl rfl rfl rfl rfl rfl hnt (hq) (lex (T := tab) tOk hnt rfl ?_ (Lex.nil _)))) ?_
    · (dsimp only [AllP]; (repeat' first | exact trivial | assumption | exact Nat.le_of_ble_eq_true rfl | apply And.intro | decide | intro _ | exact rfl))
    · (dsimp only [AllP]; (repeat' first | exact trivial | assumption | exact Nat.le_of_ble_eq_true rfl | apply And.intro | decide | intro _ | exact rfl))
    repeat' (first | refine tr_seq ?_ | refine reg (T := tab) tOk hnt rfl ?_ ?_ | refine regD (T := tab) tOk mixedR hnt rfl (by first | decide +kernel | kernel_rfl) ?_ ?_ | refine tr_block ?_ | refine tr_skip ?_)
    · (dsimp only [AllP]; (repeat' first | exact trivial | assumption | exact Nat.le_of_ble_eq_true rfl | apply And.intro | decide | intro _ | exact rfl))
    exact tr_ret ⟨.inr rfl, _, _, rfl, by (repeat' first | exact trivial | exact Nat.le_of_ble_eq_true rfl | apply And.intro), rfl⟩
  simp only [condT_tt, condT_ff, condF_tt, condF_ff, notE_t, notE_f, decide_eq_true_eq, decide_eq_false_iff_not] at hc
  rw [if_neg (by omega)] at hX
  have e2 : (strB r).extract (Int.toNat 0) (Int.toNat 2) = strB (r.take 2) := by rw [strB_extract]; rfl
  have e1 : (strB r).extract (Int.toNat 0) (Int.toNat 1) = strB (r.take 1) := by rw [strB_extract]; rfl
  have hs2 := isSign_fn (r.take 2)
  have hs1 := isSign_fn (r.take 1)
  rw [show eT (r.take 2) = E.v (.string ((strB r).extract (Int.toNat 0) (Int.toNat 2))) by rw [e2]; rfl] at hs2
  rw [show eT (r.take 1) = E.v (.string ((strB r).extract (Int.toNat 0) (Int.toNat 1))) by rw [e1]; rfl] at hs1
  repeat' (first | refine tr_seq ?_ | refine tr_block ?_ | refine tr_skip ?_)
  refine tr_region (lex (T := tab) tOk hnt rfl ?_ (callG rfl rfl rfl rfl rfl rfl hnt rfl (fun hq => ?_) (fun hq => hs2) (lex (T := tab) tOk hnt rfl ?_ (Lex.nil _)))) ?_
  · rw [lr]
    (dsimp only [AllP]; (repeat' first | exact trivial | assumption | exact Nat.le_of_ble_eq_true rfl | apply And.intro | exact eCells_len1 _ _ ‹_› | exact eCells_isByte _ _ ‹_› | (intro hh_; have hg_ := hh_; (try simp only [condT_ff, condF_tt, notE_t, notE_f, Bool.and_eq_true, ne_eq, decide_eq_true_eq, decide_eq_false_iff_not] at hg_)) | intro _ | exact rfl | omega))
  · rw [lr]
    (dsimp only [AllP]; (repeat' first | exact trivial | assumption | exact Nat.le_of_ble_eq_true rfl | apply And.intro | exact eCells_len1 _ _ ‹_› | exact eCells_isByte _ _ ‹_› | (intro hh_; have hg_ := hh_; (try simp only [condT_ff, condF_tt, notE_t, notE_f, Bool.and_eq_true, ne_eq, decide_eq_true_eq, decide_eq_false_iff_not] at hg_)) | intro _ | exact rfl | omega))
  · (dsimp only [AllP]; (repeat' first | exact trivial | assumption | exact Nat.le_of_ble_eq_true rfl | apply And.intro | decide | intro _ | exact rfl))
  have hcx : (bif decide ((1 : Int) < (((strB r).size : Nat) : Int)) then isSg (r.take 2) else false) = decide (2 ≤ r.length ∧ isSg (r.take 2) = true) := by
    rw [lr]
    by_cases h : 2 ≤ r.length
    · rw [decide_eq_true (by omega : (1 : Int) < (r.length : Int)), cond_true]
      cases isSg (r.take 2) <;> simp [h]
    · rw [decide_eq_false (by omega : ¬ (1 : Int) < (r.length : Int)), cond_false, decide_eq_false (fun e => h e.1)]
  repeat' (first | refine tr_seq ?_ | refine tr_block ?_ | refine tr_skip ?_)
  refine tr_cond rfl (fun hc => ?_) (fun hc => ?_)
  · have hc := of_decide_eq_true (hcx.symm.trans hc)
    rw [if_pos hc] at hX
    cases hX
    repeat' (first | refine tr_seq ?_ | refine tr_block ?_ | refine tr_skip ?_)
    first | refine reg (T := tab) tOk hnt rfl ?_ ?_ | refine regD (T := tab) tOk mixedR hnt rfl (by first | decide +kernel | kernel_rfl) ?_ ?_
    · rw [lr]
      (dsimp only [AllP]; (repeat' first | exact trivial | assumption | exact Nat.le_of_ble_eq_true rfl | apply And.intro | exact eCells_len1 _ _ ‹_› | exact eCells_isByte _ _ ‹_› | (intro hh_; have hg_ := hh_; (try simp only [condT_ff, condF_tt, notE_t, notE_f, Bool.and_eq_true, ne_eq, decide_eq_true_eq, decide_eq_false_iff_not] at hg_)) | intro _ | exact rfl | omega))
    refine tr_ret ⟨.inr rfl, _, _, rfl, by (repeat' first | exact trivial | exact Nat.le_of_ble_eq_true rfl | apply And.intro), ?_⟩
    exact congrArg (fun z : ByteArray => D.tup [(true, .es [eI 6, .v (.string z), eI 0, eQ 0]), (false, .es [eI 2]), (false, .es [eI 0])]) e2
  have hc := of_decide_eq_false (hcx.symm.trans hc)
  rw [if_neg hc] at hX
  repeat' (first | refine tr_seq ?_ | refine tr_block ?_ | refine tr_skip ?_)
  refine tr_region (lex (T := tab) tOk hnt rfl ?_ (call rfl rfl rfl rfl rfl rfl rfl hnt (hs1) (lex (T := tab) tOk hnt rfl ?_ (Lex.nil _)))) ?_
  · rw [lr]
    (dsimp only [AllP]; (repeat' first | exact trivial | assumption | exact Nat.le_of_ble_eq_true rfl | apply And.intro | exact eCells_len1 _ _ ‹_› | exact eCells_isByte _ _ ‹_› | (intro hh_; have hg_ := hh_; (try simp only [condT_ff, condF_tt, notE_t, notE_f, Bool.and_eq_true, ne_eq, decide_eq_true_eq, decide_eq_false_iff_not] at hg_)) | intro _ | exact rfl | omega))
  · (dsimp only [AllP]; (repeat' first | exact trivial | assumption | exact Nat.le_of_ble_eq_true rfl | apply And.intro | decide | intro _ | exact rfl))
  repeat' (first | refine tr_seq ?_ | refine tr_block ?_ | refine tr_skip ?_)
  refine tr_cond rfl (fun hc => ?_) (fun hc => ?_)
  · have hc : isSg (r.take 1) = true := hc
    rw [if_pos hc] at hX
    cases hX
    repeat' (first | refine tr_seq ?_ | refine tr_block ?_ | refine tr_skip ?_)
    first | refine reg (T := tab) tOk hnt rfl ?_ ?_ | refine regD (T := tab) tOk mixedR hnt rfl (by first | decide +kernel | kernel_rfl) ?_ ?_
    · rw [lr]
      (dsimp only [AllP]; (repeat' first | exact trivial | assumption | exact Nat.le_of_ble_eq_true rfl | apply And.intro | exact eCells_len1 _ _ ‹_› | exact eCells_isByte _ _ ‹_› | (intro hh_; have hg_ := hh_; (try simp only [condT_ff, condF_tt, notE_t, notE_f, Bool.and_eq_true, ne_eq, decide_eq_true_eq, decide_eq_false_iff_not] at hg_)) | intro _ | exact rfl | omega))
    refine tr_ret ⟨.inr rfl, _, _, rfl, by (repeat' first | exact trivial | exact Nat.le_of_ble_eq_true rfl | apply And.intro), ?_⟩
    exact congrArg (fun z : ByteArray => D.tup [(true, .es [eI 6, .v (.string z), eI 0, eQ 0]), (false, .es [eI 1]), (false, .es [eI 0])]) e1
  have hc : isSg (r.take 1) = false := hc
  rw [if_neg (by rw [hc]; exact Bool.false_ne_true)] at hX
  cases hX
  repeat' (first | refine tr_seq ?_ | refine reg (T := tab) tOk hnt rfl ?_ ?_ | refine regD (T := tab) tOk mixedR hnt rfl (by first | decide +kernel | kernel_rfl) ?_ ?_ | refine tr_block ?_ | refine tr_skip ?_)
  · (dsimp only [AllP]; (repeat' first | exact trivial | assumption | exact Nat.le_of_ble_eq_true rfl | apply And.intro | decide | intro _ | exact rfl))
  exact tr_ret ⟨.inr rfl, _, _, rfl, by (repeat' first | exact trivial | exact Nat.le_of_ble_eq_true rfl | apply And.intro), rfl⟩
end Go.Proofs.YtphaholcndhonaaDoor
namespace Go.Proofs.YtphaholcndhonaaDoor
open Go Go.RowKit Go.Proofs.YtphaholcndhonaaDoor.Ab
set_option linter.unusedSimpArgs false
set_option linter.unusedVariables false

theorem hxL_ok : ∀ (k : Nat) (r : Byt) (n : BitVec 64), (hxL k r n).1 = 0 → (hxL k r n).2.2 = k
  | 0, _, _, _ => rfl
  | k + 1, [], n, h => absurd (show (4 : Int) = 0 from h) (by decide)
  | k + 1, c :: r, n, h => by
    rw [hxL] at h ⊢
    cases hd : hxD c with
    | none => rw [hd] at h; exact absurd (show (3 : Int) = 0 from h) (by decide)
    | some d =>
      rw [hd] at h
      show (hxL k r (n <<< 4 ||| d)).2.2 + 1 = k + 1
      rw [hxL_ok k r _ h]
theorem tk_fs (s : Byt) (j : Nat) (hj : j < s.length) : (tkX s j).2.1 = (fsX (s.drop j)).2.2 ∧ ((tkX s j).2.1 = 0 → (tkX s j).1 = (fsX (s.drop j)).1 ∧ ((tkX s j).2.2 : Int) = (j : Int) + (fsX (s.drop j)).2.1) := by
  have h0 : (s.drop j).getD 0 0 = s.getD j 0 := by rw [drop_getD (d := 0) hj]; rfl
  have h1 : (s.drop j).drop 1 = s.drop (j + 1) := by rw [List.drop_drop]
  have hl : (s.drop j).length = s.length - j := List.length_drop
  unfold tkX fsX
  rw [h0, h1]
  by_cases c1 : smallB (s.getD j 0) = true
  · rw [if_pos c1, if_pos c1]
    rw [show ((s.drop j).takeWhile nameB).length = rnL nameB s j from rfl]
    by_cases h8 : 8 < rnL nameB s j
    · rw [if_pos h8, if_pos h8]
      exact ⟨rfl, fun e => absurd (show (1 : Int) = 0 from e) (by decide)⟩
    · rw [if_neg h8, if_neg h8]
      exact ⟨rfl, fun _ => ⟨rfl, rfl⟩⟩
  rw [if_neg c1, if_neg c1]
  by_cases c2 : greatB (s.getD j 0) = true
  · rw [if_pos c2, if_pos c2]
    rw [show ((s.drop j).takeWhile greatB).length = rnL greatB s j from rfl]
    by_cases h8 : 8 < rnL greatB s j
    · rw [if_pos h8, if_pos h8]
      exact ⟨rfl, fun e => absurd (show (1 : Int) = 0 from e) (by decide)⟩
    · rw [if_neg h8, if_neg h8]
      exact ⟨rfl, fun _ => ⟨rfl, rfl⟩⟩
  rw [if_neg c2, if_neg c2]
  by_cases c3 : digitB (s.getD j 0) = true
  · rw [if_pos c3, if_pos c3]
    refine ⟨rfl, fun e => ⟨?_, rfl⟩⟩
    have e : (numR ((s.drop j).takeWhile digitB)).2 = 0 := e
    show numK _ = _
    unfold numK
    rw [if_pos e]
  rw [if_neg c3, if_neg c3]
  by_cases c4 : (s.getD j 0).toNat = 39
  · rw [if_pos c4, if_pos c4]
    show quE (s.drop (j + 1)) = (quF (s.drop (j + 1))).2.2 ∧ (quE (s.drop (j + 1)) = 0 → quK (s.drop (j + 1)) = (⟨4, (quF (s.drop (j + 1))).1, 0, 0⟩ : Tok) ∧ (quA s j : Int) = (j : Int) + (quF (s.drop (j + 1))).2.1)
    unfold quE quF quK quA
    cases hq : qsL (s.drop (j + 1)) with
    | none => exact ⟨rfl, fun e => absurd (show (4 : Int) = 0 from e) (by decide)⟩
    | some z =>
      dsimp only
      by_cases h40 : 40 < z.1.length
      · rw [if_pos h40, if_pos h40]
        exact ⟨rfl, fun e => absurd (show (1 : Int) = 0 from e) (by decide)⟩
      · rw [if_neg h40, if_neg h40, if_neg h40]
        by_cases hv : vld z.1 = true
        · rw [if_pos hv, if_pos hv, if_pos hv]
          exact ⟨rfl, fun _ => ⟨rfl, by show ((j + 1 + z.2 : Nat) : Int) = (j : Int) + ((z.2 + 1 : Nat) : Int); omega⟩⟩
        · rw [if_neg hv, if_neg hv]
          exact ⟨rfl, fun e => absurd (show (3 : Int) = 0 from e) (by decide)⟩
  rw [if_neg c4, if_neg c4]
  by_cases c5 : (s.getD j 0).toNat = 35
  · rw [if_pos c5, if_pos c5]
    refine ⟨rfl, fun e => ?_⟩
    have e : (hxR (s.drop (j + 1))).1 = 0 := e
    constructor
    · show hxK _ = _
      unfold hxK
      rw [if_pos e]
    · have e2 : (hxL 16 (s.drop (j + 1)) 0).1 = 0 := by
        refine Classical.byContradiction fun h => ?_
        unfold hxR at e
        rw [if_pos h] at e
        exact h e
      show ((j + 1 + (hxL 16 (s.drop (j + 1)) 0).2.2 : Nat) : Int) = (j : Int) + 17
      rw [hxL_ok 16 _ _ e2]
      omega
  rw [if_neg c5, if_neg c5]
  show sgE (s.drop j) = _ ∧ (sgE (s.drop j) = 0 → sgK (s.drop j) = _ ∧ ((j + sgN (s.drop j) : Nat) : Int) = _)
  unfold sgE sgK sgN
  by_cases d1 : 2 ≤ (s.drop j).length ∧ isSg ((s.drop j).take 2) = true
  · rw [if_pos d1, if_pos d1]
    exact ⟨rfl, fun _ => ⟨rfl, rfl⟩⟩
  · rw [if_neg d1, if_neg d1]
    by_cases d2 : isSg ((s.drop j).take 1) = true
    · have d3 : 1 ≤ (s.drop j).length ∧ isSg ((s.drop j).take 1) = true := ⟨by omega, d2⟩
      rw [if_pos d3, if_pos d2]
      exact ⟨rfl, fun _ => ⟨rfl, rfl⟩⟩
    · have d3 : ¬ (1 ≤ (s.drop j).length ∧ isSg ((s.drop j).take 1) = true) := fun e => d2 e.2
      rw [if_neg d3, if_neg d2]
      exact ⟨rfl, fun e => absurd (show (3 : Int) = 0 from e) (by decide)⟩
theorem blA_sk (s : Byt) (i : Nat) (h : i ≤ s.length) : blA s i = i + skN (s.drop i) := by
  have := bl_len (s.drop i)
  unfold blA skN
  rw [List.length_drop] at *
  omega
set_option maxRecDepth 10000 in
set_option maxHeartbeats 2000000 in
theorem TokensOf_fn (s : Byt) (hm : s.length ≤ maxLen) : FnH Tryd.prog 17 ((gK)) ([]) [.one (.e (eT s))] (rCt (cutF s)) (msT (cutF s).1) := by
  refine fn_introH (T := tab) tOk Tryd.func17 rfl (by kernel_rfl) (by simp [Tryd.ntmps17]) rfl rfl ?_
  intro X hX
  have hnt : X.nt = 49 := hX
  clear hX
  have ls : (strB s).size = s.length := strB_size s
  repeat' (first | refine tr_seq ?_ | refine tr_block ?_ | refine tr_skip ?_)
  first | refine reg (T := tab) tOk hnt rfl ?_ ?_ | refine regD (T := tab) tOk mixedR hnt rfl (by first | decide +kernel | kernel_rfl) ?_ ?_
  · (dsimp only [AllP]; (repeat' first | exact trivial | assumption | exact Nat.le_of_ble_eq_true rfl | apply And.intro | decide | intro _ | exact rfl))
  repeat' (first | refine tr_seq ?_ | refine tr_block ?_ | refine tr_skip ?_)
  first | refine reg (T := tab) tOk hnt rfl ?_ ?_ | refine regD (T := tab) tOk mixedR hnt rfl (by first | decide +kernel | kernel_rfl) ?_ ?_
  · (dsimp only [AllP]; (repeat' first | exact trivial | assumption | exact Nat.le_of_ble_eq_true rfl | apply And.intro | decide | intro _ | exact rfl))
  rw [ls]
  repeat' (first | refine tr_seq ?_ | refine tr_block ?_ | refine tr_skip ?_)
  refine tr_cond rfl (fun hc => ?_) (fun hc => ?_)
  · simp only [condT_tt, condT_ff, condF_tt, condF_ff, notE_t, notE_f, decide_eq_true_eq, decide_eq_false_iff_not] at hc
    rw [show cutF s = ([], 0, 1) by unfold cutF; rw [if_pos (by omega)]]
    repeat' (first | refine tr_seq ?_ | refine reg (T := tab) tOk hnt rfl ?_ ?_ | refine regD (T := tab) tOk mixedR hnt rfl (by first | decide +kernel | kernel_rfl) ?_ ?_ | refine tr_block ?_ | refine tr_skip ?_)
    · (dsimp only [AllP]; (repeat' first | exact trivial | assumption | exact Nat.le_of_ble_eq_true rfl | apply And.intro | decide | intro _ | exact rfl))
    exact tr_ret ⟨.inr rfl, _, _, _, rfl, by (repeat' first | exact trivial | exact Nat.le_of_ble_eq_true rfl | apply And.intro), rfl, fun X => le_of (ad := [3000]) ⟨⟨⟨rfl, ⟨⟨rfl, rfl⟩, trivial⟩⟩, ⟨rfl, rfl⟩, ⟨rfl, rfl⟩, trivial⟩, trivial⟩ (memOk_new rfl (by decide) trivial)⟩
  simp only [condT_tt, condT_ff, condF_tt, condF_ff, notE_t, notE_f, decide_eq_true_eq, decide_eq_false_iff_not] at hc
  have hs : s.length ≤ 300 := by omega
  have hC : cutF s = ctL s 101 (blA s 0) [] := by unfold cutF; rw [if_neg (by omega)]
  rw [blA_sk s 0 (Nat.zero_le _), List.drop_zero, Nat.zero_add] at hC
  have hk0 : skN s ≤ s.length := Nat.sub_le _ _
  repeat' (first | refine tr_seq ?_ | refine tr_block ?_ | refine tr_skip ?_)
  first | refine reg (T := tab) tOk hnt rfl ?_ ?_ | refine regD (T := tab) tOk mixedR hnt rfl (by first | decide +kernel | kernel_rfl) ?_ ?_
  · (dsimp only [AllP]; (repeat' first | exact trivial | assumption | exact Nat.le_of_ble_eq_true rfl | apply And.intro | decide | intro _ | exact rfl))
  repeat' (first | refine tr_seq ?_ | refine tr_block ?_ | refine tr_skip ?_)
  refine tr_region (lex (T := tab) tOk hnt rfl ?_ (call rfl rfl rfl rfl rfl rfl rfl hnt ((skip_fn s hs)) (lex (T := tab) tOk hnt rfl ?_ (Lex.nil _)))) ?_
  · (dsimp only [AllP]; (repeat' first | exact trivial | assumption | exact Nat.le_of_ble_eq_true rfl | apply And.intro | decide | intro _ | exact rfl))
  · (dsimp only [AllP]; (repeat' first | exact trivial | assumption | exact Nat.le_of_ble_eq_true rfl | apply And.intro | decide | intro _ | exact rfl))
  repeat' (first | refine tr_seq ?_ | refine tr_block ?_ | refine tr_skip ?_)
  refine tr_loop (σ := Nat × Nat × List Tok) (fun x => St.of [(0, .one (.e (eT s))), (5, .one (.own 3001 0)), (6, .one (.e (eI (x.2.1 : Int)))), ((1000000 + 0), .one (.eptr fsE)), ((1000000 + 1), .one (.eptr acE))] [(3001, ⟨0, .row 4 (x.2.2.map eTok), 0⟩)]) (fun x => x.1 + x.2.2.length = 101 ∧ x.2.2.length ≤ 100 ∧ x.2.1 ≤ s.length ∧ ctL s x.1 x.2.1 x.2.2 = cutF s) (fun x => 100 - x.2.2.length) ((101, skN s, [])) (le_of (ad := [3001]) (by refine ⟨?_, ?_, ?_, ?_, ?_, trivial⟩ <;> first | exact trivial | rfl | exact ⟨rfl, rfl⟩ | exact ⟨rfl, rfl, rfl⟩ | exact ⟨rfl, rfl, rfl, rfl⟩ | exact ⟨rfl, rfl, rfl, rfl, rfl⟩ | exact congrArg (fun z : Int => E.v (.int .i64 z)) (wrap64_id (by omega) (by omega)) | exact congrArg (fun z : Int => E.v (.int .u8 z)) (by assumption) | exact congrArg (fun z : ByteArray => E.v (.string z)) (by assumption) | (refine ⟨rfl, ?_⟩; repeat' first | exact trivial | rfl | apply And.intro)) (memOk_new rfl (by decide) trivial)) ⟨rfl, Nat.zero_le _, hk0, hC.symm⟩ ?_
  rintro ⟨f, j, out⟩ ⟨hf, ho, jl, hJ⟩
  dsimp only at hf ho jl hJ ⊢
  obtain ⟨f, rfl⟩ : ∃ g, f = g + 1 := ⟨f - 1, by omega⟩
  rw [ctL] at hJ
  have lo : (out.map eTok).length = out.length := List.length_map ..
  repeat' (first | refine tr_seq ?_ | refine tr_block ?_ | refine tr_skip ?_)
  first | refine reg (T := tab) tOk hnt rfl ?_ ?_ | refine regD (T := tab) tOk mixedR hnt rfl (by first | decide +kernel | kernel_rfl) ?_ ?_
  · (dsimp only [AllP]; (repeat' first | exact trivial | assumption | exact Nat.le_of_ble_eq_true rfl | apply And.intro | decide | intro _ | exact rfl))
  rw [ls]
  repeat' (first | refine tr_seq ?_ | refine tr_block ?_ | refine tr_skip ?_)
  refine tr_cond rfl (fun hc => ?_) (fun hc => ?_)
  · simp only [condT_tt, condT_ff, condF_tt, condF_ff, notE_t, notE_f, decide_eq_true_eq, decide_eq_false_iff_not] at hc
    have hlt : j < s.length := by omega
    rw [if_pos hlt] at hJ
    repeat' (first | refine tr_seq ?_ | refine tr_block ?_ | refine tr_skip ?_)
    first | refine reg (T := tab) tOk hnt rfl ?_ ?_ | refine regD (T := tab) tOk mixedR hnt rfl (by first | decide +kernel | kernel_rfl) ?_ ?_
    · (dsimp only [AllP]; (repeat' first | exact trivial | assumption | exact Nat.le_of_ble_eq_true rfl | apply And.intro | decide | intro _ | exact rfl))
    rw [lo]
    repeat' (first | refine tr_seq ?_ | refine tr_block ?_ | refine tr_skip ?_)
    refine tr_cond rfl (fun hc => ?_) (fun hc => ?_)
    · simp only [condT_tt, condT_ff, condF_tt, condF_ff, notE_t, notE_f, decide_eq_true_eq, decide_eq_false_iff_not] at hc
      rw [if_pos (by omega)] at hJ
      rw [← hJ]
      repeat' (first | refine tr_seq ?_ | refine reg (T := tab) tOk hnt rfl ?_ ?_ | refine regD (T := tab) tOk mixedR hnt rfl (by first | decide +kernel | kernel_rfl) ?_ ?_ | refine tr_block ?_ | refine tr_skip ?_)
      · (dsimp only [AllP]; (repeat' first | exact trivial | assumption | exact Nat.le_of_ble_eq_true rfl | apply And.intro | decide | intro _ | exact rfl))
      exact tr_ret ⟨.inr rfl, _, _, _, rfl, by (repeat' first | exact trivial | exact Nat.le_of_ble_eq_true rfl | apply And.intro), rfl, fun X => le_of (ad := [3000]) ⟨⟨⟨rfl, ⟨⟨rfl, rfl⟩, trivial⟩⟩, ⟨rfl, rfl⟩, ⟨rfl, rfl⟩, trivial⟩, trivial⟩ (memOk_new rfl (by decide) trivial)⟩
    simp only [condT_tt, condT_ff, condF_tt, condF_ff, notE_t, notE_f, decide_eq_true_eq, decide_eq_false_iff_not] at hc
    rw [if_neg (by omega)] at hJ
    obtain ⟨t1, t2⟩ := tk_fs s j hlt
    have hta := tkX_le hlt
    have hne : s.drop j ≠ [] := fun e => by have := congrArg List.length e; rw [List.length_drop] at this; simp at this; omega
    have hfs := first_fn (s.drop j) hne (by rw [List.length_drop]; omega)
    rw [show eT (s.drop j) = E.v (.string ((strB s).extract (Int.toNat (j : Int)) (Int.toNat (((strB s).size : Nat) : Int)))) by rw [Int.toNat_natCast, strB_from]; rfl] at hfs
    generalize tkX s j = Z at *
    generalize fsX (s.drop j) = Y at *
    obtain ⟨tk, te, ta⟩ := Z
    obtain ⟨fk, fn, fe⟩ := Y
    dsimp only at t1 t2 hta hJ
    subst t1
    unfold rFs at hfs
    repeat' (first | refine tr_seq ?_ | refine tr_block ?_ | refine tr_skip ?_)
    refine tr_region (lex (T := tab) tOk hnt rfl ?_ (callV rfl rfl rfl rfl rfl rfl rfl hnt rfl (hfs) (lex (T := tab) tOk hnt rfl ?_ (Lex.nil _)))) ?_
    · rw [ls]
      (dsimp only [AllP]; (repeat' first | exact trivial | assumption | exact Nat.le_of_ble_eq_true rfl | apply And.intro | exact eCells_len1 _ _ ‹_› | exact eCells_isByte _ _ ‹_› | (intro hh_; have hg_ := hh_; (try simp only [condT_ff, condF_tt, notE_t, notE_f, Bool.and_eq_true, ne_eq, decide_eq_true_eq, decide_eq_false_iff_not] at hg_)) | intro _ | exact rfl | omega))
    · (dsimp only [AllP]; (repeat' first | exact trivial | assumption | exact Nat.le_of_ble_eq_true rfl | apply And.intro | decide | intro _ | exact rfl))
    repeat' (first | refine tr_seq ?_ | refine tr_block ?_ | refine tr_skip ?_)
    first | refine reg (T := tab) tOk hnt rfl ?_ ?_ | refine regD (T := tab) tOk mixedR hnt rfl (by first | decide +kernel | kernel_rfl) ?_ ?_
    · (dsimp only [AllP]; (repeat' first | exact trivial | assumption | exact Nat.le_of_ble_eq_true rfl | apply And.intro | decide | intro _ | exact rfl))
    repeat' (first | refine tr_seq ?_ | refine tr_block ?_ | refine tr_skip ?_)
    refine tr_cond rfl (fun hc => ?_) (fun hc => ?_)
    · simp only [condT_tt, condT_ff, condF_tt, condF_ff, notE_t, notE_f, decide_eq_true_eq, decide_eq_false_iff_not] at hc
      rw [if_pos hc] at hJ
      rw [← hJ]
      repeat' (first | refine tr_seq ?_ | refine reg (T := tab) tOk hnt rfl ?_ ?_ | refine regD (T := tab) tOk mixedR hnt rfl (by first | decide +kernel | kernel_rfl) ?_ ?_ | refine tr_block ?_ | refine tr_skip ?_)
      · (dsimp only [AllP]; (repeat' first | exact trivial | assumption | exact Nat.le_of_ble_eq_true rfl | apply And.intro | decide | intro _ | exact rfl))
      exact tr_ret ⟨.inr rfl, _, _, _, rfl, by (repeat' first | exact trivial | exact Nat.le_of_ble_eq_true rfl | apply And.intro), rfl, fun X => le_of (ad := [3000]) ⟨⟨⟨rfl, ⟨⟨rfl, rfl⟩, trivial⟩⟩, ⟨rfl, rfl⟩, ⟨rfl, rfl⟩, trivial⟩, trivial⟩ (memOk_new rfl (by decide) trivial)⟩
    simp only [condT_tt, condT_ff, condF_tt, condF_ff, notE_t, notE_f, decide_eq_true_eq, decide_eq_false_iff_not] at hc
    have hc0 : te = 0 := Classical.not_not.1 (by exact not_not_intro hc)
    obtain ⟨u1, u2⟩ := t2 hc0
    subst u1
    rw [if_neg (not_not_intro hc)] at hJ
    rw [blA_sk s ta hta] at hJ
    have hw1 : IntKind.i64.wrap ((j : Int) + fn) = (ta : Int) := by rw [← u2, wrap64_id (by omega) (by omega)]
    have hsk := skip_fn (s.drop ta) (by rw [List.length_drop]; omega)
    rw [show eT (s.drop ta) = E.v (.string ((strB s).extract (Int.toNat (ta : Int)) (Int.toNat (((strB s).size : Nat) : Int)))) by rw [Int.toNat_natCast, strB_from]; rfl] at hsk
    have hskl : skN (s.drop ta) ≤ s.length - ta := by have : skN (s.drop ta) ≤ (s.drop ta).length := Nat.sub_le _ _; rw [List.length_drop] at this; exact this
    have hq1 : (out.map eTok).length + 1 ≤ maxLen := by rw [lo]; simp only [maxLen]; omega
    have hq2 : ((out.map eTok).length + 1) * 40 ≤ 140737488355328 := by rw [lo]; omega
    repeat' (first | refine tr_seq ?_ | refine tr_block ?_ | refine tr_skip ?_)
    first | refine reg (T := tab) tOk hnt rfl ?_ ?_ | refine regD (T := tab) tOk mixedR hnt rfl (by first | decide +kernel | kernel_rfl) ?_ ?_
    · (dsimp only [AllP]; (repeat' first | exact trivial | assumption | exact Nat.le_of_ble_eq_true rfl | apply And.intro | exact eCells_len1 _ _ ‹_› | exact eCells_isByte _ _ ‹_› | (intro hh_; have hg_ := hh_; (try simp only [condT_ff, condF_tt, notE_t, notE_f, Bool.and_eq_true, ne_eq, decide_eq_true_eq, decide_eq_false_iff_not] at hg_)) | intro _ | exact rfl | omega))
    repeat' (first | refine tr_seq ?_ | refine tr_block ?_ | refine tr_skip ?_)
    first | refine reg (T := tab) tOk hnt rfl ?_ ?_ | refine regD (T := tab) tOk mixedR hnt rfl (by first | decide +kernel | kernel_rfl) ?_ ?_
    · (dsimp only [AllP]; (repeat' first | exact trivial | assumption | exact Nat.le_of_ble_eq_true rfl | apply And.intro | decide | intro _ | exact rfl))
    rw [hw1]
    repeat' (first | refine tr_seq ?_ | refine tr_block ?_ | refine tr_skip ?_)
    refine tr_region (lex (T := tab) tOk hnt rfl ?_ (call rfl rfl rfl rfl rfl rfl rfl hnt (hsk) (lex (T := tab) tOk hnt rfl ?_ (Lex.nil _)))) ?_
    · rw [ls]
      (dsimp only [AllP]; (repeat' first | exact trivial | assumption | exact Nat.le_of_ble_eq_true rfl | apply And.intro | exact eCells_len1 _ _ ‹_› | exact eCells_isByte _ _ ‹_› | (intro hh_; have hg_ := hh_; (try simp only [condT_ff, condF_tt, notE_t, notE_f, Bool.and_eq_true, ne_eq, decide_eq_true_eq, decide_eq_false_iff_not] at hg_)) | intro _ | exact rfl | omega))
    · (dsimp only [AllP]; (repeat' first | exact trivial | assumption | exact Nat.le_of_ble_eq_true rfl | apply And.intro | decide | intro _ | exact rfl))
    have hw2 : IntKind.i64.wrap ((ta : Int) + (skN (s.drop ta) : Int)) = ((ta + skN (s.drop ta) : Nat) : Int) := by rw [wrap64_id (by omega) (by omega)]; omega
    repeat' (first | refine tr_seq ?_ | refine tr_block ?_ | refine tr_skip ?_)
    refine ⟨(f, ta + skN (s.drop ta), out ++ [tk]), ⟨by dsimp only; rw [List.length_append]; show f + (out.length + 1) = 101; omega, by dsimp only; rw [List.length_append]; show out.length + 1 ≤ 100; omega, by dsimp only; omega, hJ⟩, by dsimp only; rw [List.length_append]; show 100 - (out.length + 1) < _; omega, le_of (ad := []) ⟨rfl, ⟨rfl, rfl, rfl, rfl⟩, congrArg (fun z : Int => E.v (.int .i64 z)) hw2, rfl, rfl, trivial⟩ (memOk_row rfl rfl (by rw [List.map_append]; rfl) trivial)⟩
  simp only [condT_tt, condT_ff, condF_tt, condF_ff, notE_t, notE_f, decide_eq_true_eq, decide_eq_false_iff_not] at hc
  rw [if_neg (by omega)] at hJ
  rw [← hJ]
  refine tr_exit ?_
  repeat' (first | refine tr_seq ?_ | refine reg (T := tab) tOk hnt rfl ?_ ?_ | refine regD (T := tab) tOk mixedR hnt rfl (by first | decide +kernel | kernel_rfl) ?_ ?_ | refine tr_block ?_ | refine tr_skip ?_)
  · (dsimp only [AllP]; (repeat' first | exact trivial | assumption | exact Nat.le_of_ble_eq_true rfl | apply And.intro | decide | intro _ | exact rfl))
  refine tr_le (le_rn 3001 3000 rfl rfl) ?_
  exact tr_ret ⟨.inr rfl, _, _, _, rfl, by (repeat' first | exact trivial | exact Nat.le_of_ble_eq_true rfl | apply And.intro), rfl, fun X => le_of (ad := []) ⟨⟨⟨rfl, ⟨⟨rfl, rfl, rfl, rfl⟩, trivial⟩⟩, ⟨rfl, rfl⟩, ⟨rfl, rfl⟩, trivial⟩, trivial⟩ (memOk_row rfl rfl rfl trivial)⟩
end Go.Proofs.YtphaholcndhonaaDoor
