/- What an expression says of a row: the document's numbers. No condition. -/
import Derived.Test.YthnadkafegmacaaGreatDoorTEvR
import Derived.Shelf.Spec.BitsCarry
namespace Go.Proofs.YthnadkafegmacaaGreatDoor
open Go Go.RowKit Go.Proofs.YthnadkafegmacaaGreatDoor.Ab
set_option linter.unusedSimpArgs false
set_option linter.unusedVariables false

def boF (t : Int) : Val := if t = 2 then bV true else if t = 0 then bV false else val0
set_option maxRecDepth 10000 in
set_option maxHeartbeats 2000000 in
theorem boolOf_fn (t : Int) : FnD Tryz.prog 109 [.one (.e (eI t))] (.agg (.es (eVal (boF t)))) := by
  refine fn_intro (T := tab) tOk Tryz.func109 rfl (by kernel_rfl) (by simp [Tryz.ntmps109]) ?_
  intro X hX
  have hnt : X.nt = 11 := hX
  clear hX
  unfold boF
  repeat' first | refine zzs ?_ | refine zzr hnt rfl ?_ ?_ | refine zzd hnt rfl ?_ ?_ | refine zzb ?_ | refine zzk ?_
  · exact zzt
  · exact zzt
  · exact zzt
  repeat' first | refine zzs ?_ | refine zzb ?_ | refine zzk ?_
  refine tr_cond rfl (fun hc => ?_) (fun hc => ?_)
  · simp only [zz1, zz2, zz3, zz4, zz5, zz6, zz7, zz8] at hc
    rw [if_pos hc]
    repeat' first | refine zzs ?_ | refine zzr hnt rfl ?_ ?_ | refine zzd hnt rfl ?_ ?_ | refine zzb ?_ | refine zzk ?_
    · exact zzt
    exact tr_ret ⟨.inr rfl, _, _, rfl, zzp, rfl⟩
  simp only [zz1, zz2, zz3, zz4, zz5, zz6, zz7, zz8] at hc
  rw [if_neg hc]
  repeat' first | refine zzs ?_ | refine zzr hnt rfl ?_ ?_ | refine zzd hnt rfl ?_ ?_ | refine zzb ?_ | refine zzk ?_
  · exact zzt
  repeat' first | refine zzs ?_ | refine zzb ?_ | refine zzk ?_
  refine tr_cond rfl (fun hc => ?_) (fun hc => ?_)
  · simp only [zz1, zz2, zz3, zz4, zz5, zz6, zz7, zz8] at hc
    rw [if_pos hc]
    repeat' first | refine zzs ?_ | refine zzr hnt rfl ?_ ?_ | refine zzd hnt rfl ?_ ?_ | refine zzb ?_ | refine zzk ?_
    · exact zzt
    exact tr_ret ⟨.inr rfl, _, _, rfl, zzp, rfl⟩
  simp only [zz1, zz2, zz3, zz4, zz5, zz6, zz7, zz8] at hc
  rw [if_neg hc]
  repeat' first | refine zzs ?_ | refine zzr hnt rfl ?_ ?_ | refine zzd hnt rfl ?_ ?_ | refine zzb ?_ | refine zzk ?_
  · exact zzt
  exact tr_ret ⟨.inr rfl, _, _, rfl, zzp, rfl⟩
set_option maxRecDepth 10000 in
set_option maxHeartbeats 2000000 in
theorem truthOf_fn (v : Val) (hv : good v) (hk : v.k = 0 ∨ v.k = 1) : FnD Tryz.prog 183 [.agg (.es (eVal v))] (.one (.e (eI (tO v)))) := by
  refine fn_intro (T := tab) tOk Tryz.func183 rfl (by kernel_rfl) (by simp [Tryz.ntmps183]) ?_
  intro X hX
  have hnt : X.nt = 9 := hX
  clear hX
  have h4 := (chk_cases hv.1).2.2.2.2.2.2
  unfold tO
  repeat' first | refine zzs ?_ | refine zzr hnt rfl ?_ ?_ | refine zzd hnt rfl ?_ ?_ | refine zzb ?_ | refine zzk ?_
  · exact zzt
  · exact zzt
  repeat' first | refine zzs ?_ | refine zzb ?_ | refine zzk ?_
  refine tr_cond rfl (fun hc => ?_) (fun hc => ?_)
  · simp only [zz1, zz2, zz3, zz4, zz5, zz6, zz7, zz8] at hc
    (try simp only [eVal0] at hc)
    (try simp only [zz1, zz2, zz3, zz4, zz5, zz6, zz7, zz8] at hc)
    rw [if_pos hc]
    repeat' first | refine zzs ?_ | refine zzr hnt rfl ?_ ?_ | refine zzd hnt rfl ?_ ?_ | refine zzb ?_ | refine zzk ?_
    · exact zzt
    exact tr_ret ⟨.inr rfl, _, _, rfl, trivial, rfl⟩
  simp only [zz1, zz2, zz3, zz4, zz5, zz6, zz7, zz8] at hc
  (try simp only [eVal0] at hc)
  (try simp only [zz1, zz2, zz3, zz4, zz5, zz6, zz7, zz8] at hc)
  rw [if_neg hc]
  repeat' first | refine zzs ?_ | refine zzr hnt rfl ?_ ?_ | refine zzd hnt rfl ?_ ?_ | refine zzb ?_ | refine zzk ?_
  · exact zzt
  refine tr_ret ⟨.inr rfl, _, _, rfl, trivial, ?_⟩
  rw [eVal1, wrap64_id (by have := h4 (by omega); omega) (by have := h4 (by omega); omega), Int.mul_comm]
  rfl
set_option maxRecDepth 10000 in
set_option maxHeartbeats 2000000 in
theorem isTruth_fn (a : Int) (h : 0 ≤ a ∧ a ≤ 2) : FnD Tryz.prog 235 [.one (.e (eI a))] (.v (.bool true)) := by
  refine fn_intro (T := tab) tOk Tryz.func235 rfl (by kernel_rfl) (by simp [Tryz.ntmps235]) ?_
  intro X hX
  have hnt : X.nt = 13 := hX
  clear hX
  repeat' first | refine zzs ?_ | refine zzr hnt rfl ?_ ?_ | refine zzd hnt rfl ?_ ?_ | refine zzb ?_ | refine zzk ?_
  · exact zzt
  · exact zzt
  refine tr_ret ⟨.inr rfl, _, _, rfl, by trivial, ?_⟩
  rcases (by omega : a = 0 ∨ a = 1 ∨ a = 2) with rfl | rfl | rfl <;> rfl
set_option maxRecDepth 10000 in
set_option maxHeartbeats 2000000 in
theorem logicR_fn (op a b : Int) (ho : op = 1 ∨ op = 2) (ha : 0 ≤ a ∧ a ≤ 2) (hb : 0 ≤ b ∧ b ≤ 2) : FnD Tryz.prog 182 [.one (.e (eI op)), .one (.e (eI a)), .one (.e (eI b))] (rII (if op = 2 then max a b else min a b, 0)) := by
  refine fn_intro (T := tab) tOk Tryz.func182 rfl (by kernel_rfl) (by simp [Tryz.ntmps182]) ?_
  intro X hX
  have hnt : X.nt = 37 := hX
  clear hX
  have h1 := isTruth_fn a ha
  have h2 := isTruth_fn b hb
  repeat' first | refine zzs ?_ | refine zzb ?_ | refine zzk ?_
  first | refine zzr hnt rfl ?_ ?_ | refine zzd hnt rfl ?_ ?_
  · exact zzt
  repeat' first | refine zzs ?_ | refine zzb ?_ | refine zzk ?_
  refine tr_region (zzx hnt rfl ?_ (call rfl rfl rfl rfl rfl rfl rfl hnt (h1) (zzx hnt rfl ?_ (callG rfl rfl rfl rfl rfl rfl hnt rfl (fun hq => ?_) (fun hq => h2) (zzx hnt rfl ?_ (Lex.nil _)))))) ?_
  · exact zzt
  · exact zzt
  · exact zzt
  · exact zzt
  repeat' first | refine zzs ?_ | refine zzb ?_ | refine zzk ?_
  refine tr_cond rfl (fun hc => ?_) (fun hc => ?_)
  · exact absurd (show false = true from hc) Bool.noConfusion
  repeat' first | refine zzs ?_ | refine zzr hnt rfl ?_ ?_ | refine zzd hnt rfl ?_ ?_ | refine zzb ?_ | refine zzk ?_
  · exact zzt
  · exact zzt
  rcases ho with rfl | rfl
  · repeat' first | refine zzs ?_ | refine zzb ?_ | refine zzk ?_
    refine tr_cond rfl (fun hc => ?_) (fun hc => ?_)
    · exact absurd hc (by decide)
    repeat' first | refine zzs ?_ | refine zzb ?_ | refine zzk ?_
    repeat' first | refine zzs ?_ | refine zzb ?_ | refine zzk ?_
    first | refine zzr hnt rfl ?_ ?_ | refine zzd hnt rfl ?_ ?_
    · exact zzt
    repeat' first | refine zzs ?_ | refine zzb ?_ | refine zzk ?_
    refine tr_cond rfl (fun hc => ?_) (fun hc => ?_)
    · simp only [zz1, zz2, zz3, zz4, zz5, zz6, zz7, zz8] at hc
      repeat' first | refine zzs ?_ | refine zzr hnt rfl ?_ ?_ | refine zzd hnt rfl ?_ ?_ | refine zzb ?_ | refine zzk ?_
      · exact zzt
      refine tr_ret ⟨.inr rfl, _, _, rfl, trivial, ?_⟩
      exact congrArg (fun z : Int => rII (z, 0)) (show 0 = min a b by omega)
    simp only [zz1, zz2, zz3, zz4, zz5, zz6, zz7, zz8] at hc
    repeat' first | refine zzs ?_ | refine zzb ?_ | refine zzk ?_
    first | refine zzr hnt rfl ?_ ?_ | refine zzd hnt rfl ?_ ?_
    · exact zzt
    repeat' first | refine zzs ?_ | refine zzb ?_ | refine zzk ?_
    refine tr_cond rfl (fun hc => ?_) (fun hc => ?_)
    · simp only [zz1, zz2, zz3, zz4, zz5, zz6, zz7, zz8] at hc
      repeat' first | refine zzs ?_ | refine zzr hnt rfl ?_ ?_ | refine zzd hnt rfl ?_ ?_ | refine zzb ?_ | refine zzk ?_
      · exact zzt
      refine tr_ret ⟨.inr rfl, _, _, rfl, trivial, ?_⟩
      exact congrArg (fun z : Int => rII (z, 0)) (show 1 = min a b by omega)
    simp only [zz1, zz2, zz3, zz4, zz5, zz6, zz7, zz8] at hc
    repeat' first | refine zzs ?_ | refine zzr hnt rfl ?_ ?_ | refine zzd hnt rfl ?_ ?_ | refine zzb ?_ | refine zzk ?_
    · exact zzt
    refine tr_ret ⟨.inr rfl, _, _, rfl, trivial, ?_⟩
    exact congrArg (fun z : Int => rII (z, 0)) (show a = min a b by omega)
  · repeat' first | refine zzs ?_ | refine zzb ?_ | refine zzk ?_
    refine tr_cond rfl (fun hc => ?_) (fun hc => ?_)
    rotate_left
    · exact absurd hc (by decide)
    repeat' first | refine zzs ?_ | refine zzb ?_ | refine zzk ?_
    first | refine zzr hnt rfl ?_ ?_ | refine zzd hnt rfl ?_ ?_
    · exact zzt
    repeat' first | refine zzs ?_ | refine zzb ?_ | refine zzk ?_
    first | refine zzr hnt rfl ?_ ?_ | refine zzd hnt rfl ?_ ?_
    · exact zzt
    repeat' first | refine zzs ?_ | refine zzb ?_ | refine zzk ?_
    refine tr_cond rfl (fun hc => ?_) (fun hc => ?_)
    · simp only [zz1, zz2, zz3, zz4, zz5, zz6, zz7, zz8] at hc
      repeat' first | refine zzs ?_ | refine zzr hnt rfl ?_ ?_ | refine zzd hnt rfl ?_ ?_ | refine zzb ?_ | refine zzk ?_
      · exact zzt
      refine tr_ret ⟨.inr rfl, _, _, rfl, trivial, ?_⟩
      exact congrArg (fun z : Int => rII (z, 0)) (show 2 = max a b by omega)
    simp only [zz1, zz2, zz3, zz4, zz5, zz6, zz7, zz8] at hc
    repeat' first | refine zzs ?_ | refine zzb ?_ | refine zzk ?_
    first | refine zzr hnt rfl ?_ ?_ | refine zzd hnt rfl ?_ ?_
    · exact zzt
    repeat' first | refine zzs ?_ | refine zzb ?_ | refine zzk ?_
    refine tr_cond rfl (fun hc => ?_) (fun hc => ?_)
    · simp only [zz1, zz2, zz3, zz4, zz5, zz6, zz7, zz8] at hc
      repeat' first | refine zzs ?_ | refine zzr hnt rfl ?_ ?_ | refine zzd hnt rfl ?_ ?_ | refine zzb ?_ | refine zzk ?_
      · exact zzt
      refine tr_ret ⟨.inr rfl, _, _, rfl, trivial, ?_⟩
      exact congrArg (fun z : Int => rII (z, 0)) (show 1 = max a b by omega)
    simp only [zz1, zz2, zz3, zz4, zz5, zz6, zz7, zz8] at hc
    repeat' first | refine zzs ?_ | refine zzr hnt rfl ?_ ?_ | refine zzd hnt rfl ?_ ?_ | refine zzb ?_ | refine zzk ?_
    · exact zzt
    refine tr_ret ⟨.inr rfl, _, _, rfl, trivial, ?_⟩
    exact congrArg (fun z : Int => rII (z, 0)) (show a = max a b by omega)
set_option maxRecDepth 10000 in
set_option maxHeartbeats 2000000 in
theorem opposite_fn (a : Int) (ha : 0 ≤ a ∧ a ≤ 2) : FnD Tryz.prog 184 [.one (.e (eI a))] (rII (2 - a, 0)) := by
  refine fn_intro (T := tab) tOk Tryz.func184 rfl (by kernel_rfl) (by simp [Tryz.ntmps184]) ?_
  intro X hX
  have hnt : X.nt = 11 := hX
  clear hX
  rcases (by omega : a = 0 ∨ a = 1 ∨ a = 2) with rfl | rfl | rfl
  · repeat' first | refine zzs ?_ | refine zzr hnt rfl ?_ ?_ | refine zzd hnt rfl ?_ ?_ | refine zzb ?_ | refine zzk ?_
    · exact zzt
    · exact zzt
    · exact zzt
    repeat' first | refine zzs ?_ | refine zzb ?_ | refine zzk ?_
    refine tr_cond rfl (fun hc => ?_) (fun hc => ?_)
    rotate_left
    · exact absurd (show true = false from hc) Bool.noConfusion
    repeat' first | refine zzs ?_ | refine zzr hnt rfl ?_ ?_ | refine zzd hnt rfl ?_ ?_ | refine zzb ?_ | refine zzk ?_
    · exact zzt
    exact tr_ret ⟨.inr rfl, _, _, rfl, trivial, rfl⟩
  · repeat' first | refine zzs ?_ | refine zzr hnt rfl ?_ ?_ | refine zzd hnt rfl ?_ ?_ | refine zzb ?_ | refine zzk ?_
    · exact zzt
    · exact zzt
    · exact zzt
    repeat' first | refine zzs ?_ | refine zzb ?_ | refine zzk ?_
    refine tr_cond rfl (fun hc => ?_) (fun hc => ?_)
    · exact absurd (show false = true from hc) Bool.noConfusion
    repeat' first | refine zzs ?_ | refine zzb ?_ | refine zzk ?_
    first | refine zzr hnt rfl ?_ ?_ | refine zzd hnt rfl ?_ ?_
    · exact zzt
    repeat' first | refine zzs ?_ | refine zzb ?_ | refine zzk ?_
    refine tr_cond rfl (fun hc => ?_) (fun hc => ?_)
    · exact absurd (show false = true from hc) Bool.noConfusion
    repeat' first | refine zzs ?_ | refine zzb ?_ | refine zzk ?_
    first | refine zzr hnt rfl ?_ ?_ | refine zzd hnt rfl ?_ ?_
    · exact zzt
    repeat' first | refine zzs ?_ | refine zzb ?_ | refine zzk ?_
    refine tr_cond rfl (fun hc => ?_) (fun hc => ?_)
    rotate_left
    · exact absurd (show true = false from hc) Bool.noConfusion
    repeat' first | refine zzs ?_ | refine zzr hnt rfl ?_ ?_ | refine zzd hnt rfl ?_ ?_ | refine zzb ?_ | refine zzk ?_
    · exact zzt
    exact tr_ret ⟨.inr rfl, _, _, rfl, trivial, rfl⟩
  · repeat' first | refine zzs ?_ | refine zzr hnt rfl ?_ ?_ | refine zzd hnt rfl ?_ ?_ | refine zzb ?_ | refine zzk ?_
    · exact zzt
    · exact zzt
    · exact zzt
    repeat' first | refine zzs ?_ | refine zzb ?_ | refine zzk ?_
    refine tr_cond rfl (fun hc => ?_) (fun hc => ?_)
    · exact absurd (show false = true from hc) Bool.noConfusion
    repeat' first | refine zzs ?_ | refine zzb ?_ | refine zzk ?_
    first | refine zzr hnt rfl ?_ ?_ | refine zzd hnt rfl ?_ ?_
    · exact zzt
    repeat' first | refine zzs ?_ | refine zzb ?_ | refine zzk ?_
    refine tr_cond rfl (fun hc => ?_) (fun hc => ?_)
    rotate_left
    · exact absurd (show true = false from hc) Bool.noConfusion
    repeat' first | refine zzs ?_ | refine zzr hnt rfl ?_ ?_ | refine zzd hnt rfl ?_ ?_ | refine zzb ?_ | refine zzk ?_
    · exact zzt
    exact tr_ret ⟨.inr rfl, _, _, rfl, trivial, rfl⟩
set_option maxRecDepth 10000 in
set_option maxHeartbeats 2000000 in
theorem intOf_fn (n : Int) : FnD Tryz.prog 186 [.one (.e (eI n))] (rVE (nV n, 0)) := by
  refine fn_intro (T := tab) tOk Tryz.func186 rfl (by kernel_rfl) (by simp [Tryz.ntmps186]) ?_
  intro X hX
  have hnt : X.nt = 6 := hX
  clear hX
  repeat' first | refine zzs ?_ | refine zzr hnt rfl ?_ ?_ | refine zzd hnt rfl ?_ ?_ | refine zzb ?_ | refine zzk ?_
  · exact zzt
  · exact zzt
  exact tr_ret ⟨.inr rfl, _, _, rfl, zzp, rfl⟩
/-! ### whole numbers as words -/
theorem u_id {n : Int} (h0 : 0 ≤ n) (h1 : n < 18446744073709551616) : IntKind.u64.wrap n = n := by
  unfold IntKind.wrap
  simp [IntKind.bits, IntKind.signed]
  omega
theorem u_mod (n : Int) : IntKind.u64.wrap n = n % 18446744073709551616 := by
  unfold IntKind.wrap
  simp [IntKind.bits, IntKind.signed]
def szI (n : Int) : Nat := n.natAbs
set_option maxRecDepth 10000 in
set_option maxHeartbeats 2000000 in
theorem sizeOf_fn (n : Int) (h : fitI n) : FnD Tryz.prog 239 [.one (.e (eI n))] (.v (.int .u64 (szI n : Int))) := by
  refine fn_intro (T := tab) tOk Tryz.func239 rfl (by kernel_rfl) (by simp [Tryz.ntmps239]) ?_
  intro X hX
  have hnt : X.nt = 10 := hX
  clear hX
  unfold fitI at h
  unfold szI
  repeat' first | refine zzs ?_ | refine zzr hnt rfl ?_ ?_ | refine zzd hnt rfl ?_ ?_ | refine zzb ?_ | refine zzk ?_
  · exact zzt
  · exact zzt
  repeat' first | refine zzs ?_ | refine zzb ?_ | refine zzk ?_
  refine tr_cond rfl (fun hc => ?_) (fun hc => ?_)
  · simp only [zz1, zz2, zz3, zz4, zz5, zz6, zz7, zz8] at hc
    repeat' first | refine zzs ?_ | refine zzr hnt rfl ?_ ?_ | refine zzd hnt rfl ?_ ?_ | refine zzb ?_ | refine zzk ?_
    · exact zzt
    refine tr_ret ⟨.inr rfl, _, _, rfl, by trivial, ?_⟩
    refine congrArg (fun z : Int => D.v (.int .u64 z)) ?_
    rw [u_mod, u_mod]
    omega
  simp only [zz1, zz2, zz3, zz4, zz5, zz6, zz7, zz8] at hc
  repeat' first | refine zzs ?_ | refine zzr hnt rfl ?_ ?_ | refine zzd hnt rfl ?_ ?_ | refine zzb ?_ | refine zzk ?_
  · exact zzt
  refine tr_ret ⟨.inr rfl, _, _, rfl, by trivial, ?_⟩
  refine congrArg (fun z : Int => D.v (.int .u64 z)) ?_
  rw [u_mod]
  omega
def sgnF (minus : Bool) (n : Nat) : Val × Int := bif minus then (bif Nat.ble n 9223372036854775808 then (nV (-(n : Int)), 0) else (val0, 6)) else (bif Nat.ble n 9223372036854775807 then (nV (n : Int), 0) else (val0, 6))
theorem nat63 (n : Nat) : -9223372036854775808 ≤ (n : Int) := by omega
theorem lt63 {n : Int} (h : n < 9223372036854775808) : n ≤ 9223372036854775807 := by omega
theorem nlt63 {n : Int} (h : ¬ n < 9223372036854775808) : ¬ n ≤ 9223372036854775807 := by omega
theorem ble_t {n m : Nat} (h : (n : Int) ≤ (m : Int)) : Nat.ble n m = true := Nat.ble_eq_true_of_le (by omega)
theorem ble_f {n m : Nat} (h : ¬ (n : Int) ≤ (m : Int)) : Nat.ble n m = false := by
  cases hb : Nat.ble n m with
  | false => rfl
  | true => exact absurd (Nat.le_of_ble_eq_true hb) (by omega)
theorem i_neg {n : Nat} (h : n ≤ 9223372036854775808) : IntKind.i64.wrap (IntKind.u64.wrap (0 - (n : Int))) = -(n : Int) := by
  rw [u_mod]
  obtain ⟨k, h1, h2⟩ := wr64 ((0 - (n : Int)) % 18446744073709551616)
  unfold fitI at h2
  omega
set_option maxRecDepth 10000 in
set_option maxHeartbeats 2000000 in
theorem signed_fn (minus : Bool) (n : Nat) : FnD Tryz.prog 240 [.one (.e (.v (.bool minus))), .one (.e (.v (.int .u64 (n : Int))))] (rVE (sgnF minus n)) := by
  refine fn_intro (T := tab) tOk Tryz.func240 rfl (by kernel_rfl) (by simp [Tryz.ntmps240]) ?_
  intro X hX
  have hnt : X.nt = 29 := hX
  clear hX
  unfold sgnF
  repeat' first | refine zzs ?_ | refine zzb ?_ | refine zzk ?_
  first | refine zzr hnt rfl ?_ ?_ | refine zzd hnt rfl ?_ ?_
  · exact zzt
  repeat' first | refine zzs ?_ | refine zzb ?_ | refine zzk ?_
  first | refine zzr hnt rfl ?_ ?_ | refine zzd hnt rfl ?_ ?_
  · exact zzt
  cases minus with
  | true =>
    rw [cond_true]
    repeat' first | refine zzs ?_ | refine zzb ?_ | refine zzk ?_
    refine tr_cond rfl (fun hc => ?_) (fun hc => ?_)
    · simp only [cond_true, decide_eq_true_eq] at hc
      rw [ble_t (m := 9223372036854775808) hc, cond_true]
      repeat' first | refine zzs ?_ | refine zzb ?_ | refine zzk ?_
      refine tr_region (zzx hnt rfl ?_ (call rfl rfl rfl rfl rfl rfl rfl hnt (intOf_fn _) (zzx hnt rfl ?_ (Lex.nil _)))) ?_
      · exact zzt
      · exact zzt
      rw [i_neg (Int.ofNat_le.1 hc)]
      exact tr_ret ⟨.inr rfl, _, _, rfl, zzp, rfl⟩
    simp only [cond_true, decide_eq_false_iff_not] at hc
    rw [ble_f (m := 9223372036854775808) hc, cond_false]
    repeat' first | refine zzs ?_ | refine zzb ?_ | refine zzk ?_
    first | refine zzr hnt rfl ?_ ?_ | refine zzd hnt rfl ?_ ?_
    · exact zzt
    repeat' first | refine zzs ?_ | refine zzb ?_ | refine zzk ?_
    refine tr_cond rfl (fun hc => ?_) (fun hc => ?_)
    · exact absurd (show false = true from hc) Bool.noConfusion
    repeat' first | refine zzs ?_ | refine zzr hnt rfl ?_ ?_ | refine zzd hnt rfl ?_ ?_ | refine zzb ?_ | refine zzk ?_
    · exact zzt
    exact tr_ret ⟨.inr rfl, _, _, rfl, zzp, rfl⟩
  | false =>
    repeat' first | refine zzs ?_ | refine zzb ?_ | refine zzk ?_
    refine tr_cond rfl (fun hc => ?_) (fun hc => ?_)
    · exact absurd (show false = true from hc) Bool.noConfusion
    rw [cond_false]
    repeat' first | refine zzs ?_ | refine zzb ?_ | refine zzk ?_
    first | refine zzr hnt rfl ?_ ?_ | refine zzd hnt rfl ?_ ?_
    · exact zzt
    repeat' first | refine zzs ?_ | refine zzb ?_ | refine zzk ?_
    refine tr_cond rfl (fun hc => ?_) (fun hc => ?_)
    · simp only [zz1, zz2, zz3, zz4, zz5, zz6, zz7, zz8] at hc
      have hc := lt63 hc.2
      rw [ble_t (m := 9223372036854775807) hc, cond_true]
      repeat' first | refine zzs ?_ | refine zzb ?_ | refine zzk ?_
      refine tr_region (zzx hnt rfl ?_ (call rfl rfl rfl rfl rfl rfl rfl hnt (intOf_fn _) (zzx hnt rfl ?_ (Lex.nil _)))) ?_
      · exact zzt
      · exact zzt
      rw [wrap64_id (nat63 n) hc]
      exact tr_ret ⟨.inr rfl, _, _, rfl, zzp, rfl⟩
    simp only [zz1, zz2, zz3, zz4, zz5, zz6, zz7, zz8] at hc
    have hc := nlt63 (hc.resolve_left Bool.false_ne_true)
    rw [ble_f (m := 9223372036854775807) hc, cond_false]
    repeat' first | refine zzs ?_ | refine zzr hnt rfl ?_ ?_ | refine zzd hnt rfl ?_ ?_ | refine zzb ?_ | refine zzk ?_
    · exact zzt
    exact tr_ret ⟨.inr rfl, _, _, rfl, zzp, rfl⟩
theorem tup2 {p : Rho} {C : Nat → Nat → Value → Prop} {w : World} (x y : Value) (hx : x.oneCell' = true) (hy : y.oneCell' = true) : RepD p C w (.tup [(false, .es [.v x]), (false, .es [.v y])]) (.tuple #[x, y]) := by
  refine ⟨[x, y], rfl, rfl, fun i q u h1 h2 => ?_⟩
  match i, h1, h2 with
  | 0, h1, h2 =>
    cases h1; cases h2
    exact ⟨rfl, fun j z v k1 k2 => by
      match j, k1, k2 with
      | 0, k1, k2 => cases k1; cases k2; exact repV_mk hx⟩
  | 1, h1, h2 =>
    cases h1; cases h2
    exact ⟨rfl, fun j z v k1 k2 => by
      match j, k1, k2 with
      | 0, k1, k2 => cases k1; cases k2; exact repV_mk hy⟩
theorem vs3 {C : Nat → Nat → Value → Prop} {w : World} {vs : Array Value} {a b c : Value} (h : RepAs C w [.v a, .v b, .v c] vs.toList) : vs = #[a, b, c] := by
  obtain ⟨h1, h2⟩ := h
  obtain ⟨l⟩ := vs
  match l, h1, h2 with
  | [x, y, z], _, h2 =>
    rw [repV (h2 0 _ x rfl rfl), repV (h2 1 _ y rfl rfl), repV (h2 2 _ z rfl rfl)]
theorem add64_ext (x y : Int) (hx : 0 ≤ x) (hy : 0 ≤ y) : FnE Tryz.prog 236 [.v (.int .u64 x), .v (.int .u64 y), .v (.int .u64 0)] (.tup [(false, .es [.v (.int .u64 ((x + y + 0) % 18446744073709551616))]), (false, .es [.v (.int .u64 ((x + y + 0) / 18446744073709551616))])]) := by
  intro w vs C h
  have hv := vs3 h
  subst hv
  refine ⟨_, ?_, tup2 _ _ rfl rfl⟩
  rw [run_callFunc_extern Tryz.func236 (e := add64Entry) (by kernel_rfl) (by kernel_rfl) (by kernel_rfl) (by kernel_rfl), run_add64 x y 0 hx hy (Int.le_refl 0) (by decide)]
  rfl
theorem sub64_ext (x y : Nat) : FnE Tryz.prog 237 [.v (.int .u64 (x : Int)), .v (.int .u64 (y : Int)), .v (.int .u64 0)] (.tup [(false, .es [.v (.int .u64 (((x + 18446744073709551616 - y - 0) % 18446744073709551616 : Nat) : Int))]), (false, .es [.v (.int .u64 ((if x < y + 0 then 1 else 0 : Nat) : Int))])]) := by
  intro w vs C h
  have hv := vs3 h
  subst hv
  refine ⟨_, ?_, tup2 _ _ rfl rfl⟩
  rw [run_callFunc_extern Tryz.func237 (e := sub64Entry) (by kernel_rfl) (by kernel_rfl) (by kernel_rfl) (by kernel_rfl)]
  rw [show (#[.int .u64 (x : Int), .int .u64 (y : Int), .int .u64 0] : Array Value) = #[.int .u64 (x : Int), .int .u64 (y : Int), .int .u64 ((0 : Nat) : Int)] from rfl, run_sub64 x y 0 (Nat.zero_le _)]
  rfl
theorem u_and (n : Nat) (h : n < 18446744073709551616) : IntKind.u64.wrap (((BitVec.ofInt IntKind.u64.bits (n : Int)) &&& (BitVec.ofInt IntKind.u64.bits (4294967295 : Int))).toNat : Int) = ((n % 4294967296 : Nat) : Int) := by
  have e : (BitVec.ofInt IntKind.u64.bits (n : Int)) = BitVec.ofNat 64 n := BitVec.ofInt_natCast ..
  have e2 : (BitVec.ofInt IntKind.u64.bits (4294967295 : Int)) = BitVec.ofNat 64 4294967295 := rfl
  have h3 : ((BitVec.ofNat 64 n) &&& (BitVec.ofNat 64 4294967295)).toNat = n % 4294967296 := by
    rw [BitVec.toNat_and, BitVec.toNat_ofNat, BitVec.toNat_ofNat, Nat.mod_eq_of_lt (show n < 2 ^ 64 from h), show (4294967295 : Nat) % 2 ^ 64 = 2 ^ 32 - 1 from rfl, Nat.and_two_pow_sub_one_eq_mod]
  rw [e, e2]
  show IntKind.u64.wrap ((((BitVec.ofNat 64 n) &&& (BitVec.ofNat 64 4294967295)).toNat : Nat) : Int) = _
  rw [h3]
  exact u_id (by omega) (by omega)
theorem u_shr (n : Nat) : Int.fdiv (n : Int) (2 ^ min (Int.toNat 32) IntKind.u64.bits) = ((n / 4294967296 : Nat) : Int) := by
  rw [show (2 ^ min (Int.toNat 32) IntKind.u64.bits : Int) = ((4294967296 : Nat) : Int) from rfl, Int.fdiv_eq_ediv_of_nonneg _ (by omega)]
  rfl
theorem mul_lim {a b : Nat} (ha : a ≤ 4294967295) (hb : b ≤ 4294967295) : a * b ≤ 18446744065119617025 := Nat.mul_le_mul ha hb
theorem mul_hi (x y : Nat) : x * y = (x / 4294967296) * (y / 4294967296) * 18446744073709551616 + ((x / 4294967296) * (y % 4294967296) + (x % 4294967296) * (y / 4294967296)) * 4294967296 + (x % 4294967296) * (y % 4294967296) := by
  have hx : x = 4294967296 * (x / 4294967296) + x % 4294967296 := (Nat.div_add_mod x 4294967296).symm
  have hy : y = 4294967296 * (y / 4294967296) + y % 4294967296 := (Nat.div_add_mod y 4294967296).symm
  generalize x / 4294967296 = a at *
  generalize x % 4294967296 = b at *
  generalize y / 4294967296 = c at *
  generalize y % 4294967296 = d at *
  subst hx
  subst hy
  rw [Nat.add_mul, Nat.mul_add, Nat.mul_add]
  have e1 : 4294967296 * a * (4294967296 * c) = a * c * 18446744073709551616 := by
    rw [Nat.mul_assoc, Nat.mul_left_comm a 4294967296 c, ← Nat.mul_assoc, Nat.mul_comm _ (a * c)]
  have e2 : 4294967296 * a * d = a * d * 4294967296 := by rw [Nat.mul_assoc, Nat.mul_comm]
  have e3 : b * (4294967296 * c) = b * c * 4294967296 := by rw [Nat.mul_left_comm, Nat.mul_comm]
  rw [e1, e2, e3, Nat.add_mul]
  omega
set_option maxRecDepth 10000 in
set_option maxHeartbeats 2000000 in
theorem mul64_fn (x y : Nat) (hx : x < 18446744073709551616) (hy : y < 18446744073709551616) : FnD Tryz.prog 238 [.one (.e (.v (.int .u64 (x : Int)))), .one (.e (.v (.int .u64 (y : Int))))] (.tup [(false, .es [.v (.int .u64 ((x * y / 18446744073709551616 : Nat) : Int))]), (false, .es [.v (.int .u64 ((x * y % 18446744073709551616 : Nat) : Int))])]) := by
  refine fn_intro (T := tab) tOk Tryz.func238 rfl (by kernel_rfl) (by simp [Tryz.ntmps238]) ?_
  intro X hX
  have hnt : X.nt = 51 := hX
  clear hX
  have hm := mul_hi x y
  have x1 : x / 4294967296 ≤ 4294967295 := by omega
  have y1 : y / 4294967296 ≤ 4294967295 := by omega
  have x0 : x % 4294967296 ≤ 4294967295 := by omega
  have y0 : y % 4294967296 ≤ 4294967295 := by omega
  have p1 := mul_lim x1 y1
  have p2 := mul_lim x1 y0
  have p3 := mul_lim x0 y1
  have p4 := mul_lim x0 y0
  repeat' first | refine zzs ?_ | refine zzb ?_ | refine zzk ?_
  first | refine zzr hnt rfl ?_ ?_ | refine zzd hnt rfl ?_ ?_
  · exact zzt
  repeat' first | refine zzs ?_ | refine zzb ?_ | refine zzk ?_
  first | refine zzr hnt rfl ?_ ?_ | refine zzd hnt rfl ?_ ?_
  · exact zzt
  rw [u_and x hx]
  repeat' first | refine zzs ?_ | refine zzb ?_ | refine zzk ?_
  first | refine zzr hnt rfl ?_ ?_ | refine zzd hnt rfl ?_ ?_
  · exact zzt
  rw [u_shr]
  repeat' first | refine zzs ?_ | refine zzb ?_ | refine zzk ?_
  first | refine zzr hnt rfl ?_ ?_ | refine zzd hnt rfl ?_ ?_
  · exact zzt
  rw [u_and y hy]
  repeat' first | refine zzs ?_ | refine zzb ?_ | refine zzk ?_
  first | refine zzr hnt rfl ?_ ?_ | refine zzd hnt rfl ?_ ?_
  · exact zzt
  rw [u_shr]
  generalize x / 4294967296 = a at *
  generalize y / 4294967296 = c at *
  generalize x % 4294967296 = b at *
  generalize y % 4294967296 = d at *
  repeat' first | refine zzs ?_ | refine zzb ?_ | refine zzk ?_
  first | refine zzr hnt rfl ?_ ?_ | refine zzd hnt rfl ?_ ?_
  · exact zzt
  rw [show ((b : Int) * (d : Int)) = ((b * d : Nat) : Int) from rfl, u_id (n := ((b * d : Nat) : Int)) (by omega) (by omega)]
  repeat' first | refine zzs ?_ | refine zzb ?_ | refine zzk ?_
  first | refine zzr hnt rfl ?_ ?_ | refine zzd hnt rfl ?_ ?_
  · exact zzt
  rw [u_shr, show ((a : Int) * (d : Int)) = ((a * d : Nat) : Int) from rfl, u_id (n := ((a * d : Nat) : Int)) (by omega) (by omega), show ((a * d : Nat) : Int) + ((b * d / 4294967296 : Nat) : Int) = ((a * d + b * d / 4294967296 : Nat) : Int) from rfl, u_id (n := ((a * d + b * d / 4294967296 : Nat) : Int)) (by omega) (by omega)]
  generalize hQ : a * d = Q at *
  generalize hS : b * d = S at *
  generalize hT : Q + S / 4294967296 = T at *
  repeat' first | refine zzs ?_ | refine zzb ?_ | refine zzk ?_
  first | refine zzr hnt rfl ?_ ?_ | refine zzd hnt rfl ?_ ?_
  · exact zzt
  rw [u_and T (by omega)]
  repeat' first | refine zzs ?_ | refine zzb ?_ | refine zzk ?_
  first | refine zzr hnt rfl ?_ ?_ | refine zzd hnt rfl ?_ ?_
  · exact zzt
  rw [u_shr]
  repeat' first | refine zzs ?_ | refine zzb ?_ | refine zzk ?_
  first | refine zzr hnt rfl ?_ ?_ | refine zzd hnt rfl ?_ ?_
  · exact zzt
  rw [show ((b : Int) * (c : Int)) = ((b * c : Nat) : Int) from rfl]
  generalize hR : b * c = V at *
  rw [u_id (n := (V : Int)) (by omega) (by omega), show ((T % 4294967296 : Nat) : Int) + (V : Int) = ((T % 4294967296 + V : Nat) : Int) from rfl, u_id (n := ((T % 4294967296 + V : Nat) : Int)) (by omega) (by omega)]
  repeat' first | refine zzs ?_ | refine zzb ?_ | refine zzk ?_
  first | refine zzr hnt rfl ?_ ?_ | refine zzd hnt rfl ?_ ?_
  · exact zzt
  rw [u_shr, show ((a : Int) * (c : Int)) = ((a * c : Nat) : Int) from rfl]
  generalize hP : a * c = P at *
  rw [u_id (n := (P : Int)) (by omega) (by omega), show (P : Int) + ((T / 4294967296 : Nat) : Int) = ((P + T / 4294967296 : Nat) : Int) from rfl, u_id (n := ((P + T / 4294967296 : Nat) : Int)) (by omega) (by omega), show ((P + T / 4294967296 : Nat) : Int) + (((T % 4294967296 + V) / 4294967296 : Nat) : Int) = ((P + T / 4294967296 + (T % 4294967296 + V) / 4294967296 : Nat) : Int) from rfl]
  have hhi : P + T / 4294967296 + (T % 4294967296 + V) / 4294967296 = x * y / 18446744073709551616 := by omega
  have hlt : x * y < 18446744073709551616 * 18446744073709551616 := Nat.mul_lt_mul'' hx hy
  rw [hhi, u_id (n := ((x * y / 18446744073709551616 : Nat) : Int)) (by omega) (by omega)]
  repeat' first | refine zzs ?_ | refine zzb ?_ | refine zzk ?_
  first | refine zzr hnt rfl ?_ ?_ | refine zzd hnt rfl ?_ ?_
  · exact zzt
  rw [show ((x : Int) * (y : Int)) = ((x * y : Nat) : Int) from rfl, show IntKind.u64.wrap ((x * y : Nat) : Int) = ((x * y % 18446744073709551616 : Nat) : Int) from u_mod _]
  exact tr_ret ⟨.inr rfl, _, _, rfl, zzp, rfl⟩
/-! ### reckoned -/
theorem top_i {i : Int} (h : fitI i) : IntKind.u64.wrap (IntKind.u64.wrap i + 9223372036854775808) = i + 9223372036854775808 := by
  unfold fitI at h
  rw [u_mod, u_mod]
  omega
theorem i_of {n m : Int} (h : fitI n) (h2 : ∃ k : Int, m = n + k * 18446744073709551616) : IntKind.i64.wrap m = n := by
  obtain ⟨k, rfl⟩ := h2
  obtain ⟨j, h3, h4⟩ := wr64 (n + k * 18446744073709551616)
  unfold fitI at *
  omega
theorem rc_add {a b : Int} (ha : fitI a) (hb : fitI b) : (((a + 9223372036854775808 + (b + 9223372036854775808) + 0) / 18446744073709551616 = 0 ∧ (a + 9223372036854775808 + (b + 9223372036854775808) + 0) % 18446744073709551616 < 9223372036854775808) ∨
    ((a + 9223372036854775808 + (b + 9223372036854775808) + 0) / 18446744073709551616 = 1 ∧ 9223372036854775808 ≤ (a + 9223372036854775808 + (b + 9223372036854775808) + 0) % 18446744073709551616)) ↔ ¬ fitI (a + b) := by
  unfold fitI at *
  omega
theorem neg_b (P Q : Prop) [Decidable P] [Decidable Q] : (!(decide P == decide Q)) = decide (¬ (P ↔ Q)) := by
  by_cases h1 : P <;> by_cases h2 : Q <;> simp [h1, h2]
theorem sg_mul {a b : Int} (ha : fitI a) (hb : fitI b) (hhi : szI a * szI b / 18446744073709551616 = 0) : sgnF (decide (¬ (a < 0 ↔ b < 0))) (szI a * szI b % 18446744073709551616) = rkN 7 a b := by
  have hF : rkN 7 a b = if fitI (a * b) then (nV (a * b), 0) else (val0, 6) := rfl
  rw [hF]
  have hn : (a * b).natAbs = szI a * szI b := Int.natAbs_mul a b
  have hlt : szI a * szI b < 18446744073709551616 := by omega
  rw [Nat.mod_eq_of_lt hlt, ← hn]
  have hsg : (¬ (a < 0 ↔ b < 0)) → a * b ≤ 0 := fun h => by
    rcases Int.lt_or_le a 0 with h1 | h1
    · have h2 : 0 ≤ b := by omega
      exact Int.mul_nonpos_of_nonpos_of_nonneg (by omega) h2
    · have h2 : b ≤ 0 := by omega
      exact Int.mul_nonpos_of_nonneg_of_nonpos h1 h2
  have hsp : (a < 0 ↔ b < 0) → 0 ≤ a * b := fun h => by
    rcases Int.lt_or_le a 0 with h1 | h1
    · exact Int.mul_nonneg_of_nonpos_of_nonpos (by omega) (by omega)
    · exact Int.mul_nonneg h1 (by omega)
  generalize a * b = m at *
  unfold sgnF
  by_cases hs : a < 0 ↔ b < 0
  · have := hsp hs
    rw [decide_eq_false (not_not_intro hs), cond_false]
    by_cases hf : fitI m
    · rw [if_pos hf]
      unfold fitI at hf
      rw [ble_t (m := 9223372036854775807) (by omega), cond_true, show ((m.natAbs : Nat) : Int) = m by omega]
    · rw [if_neg hf]
      unfold fitI at hf
      rw [ble_f (m := 9223372036854775807) (by omega), cond_false]
  · have := hsg hs
    rw [decide_eq_true hs, cond_true]
    by_cases hf : fitI m
    · rw [if_pos hf]
      unfold fitI at hf
      rw [ble_t (m := 9223372036854775808) (by omega), cond_true, show -((m.natAbs : Nat) : Int) = m by omega]
    · rw [if_neg hf]
      unfold fitI at hf
      rw [ble_f (m := 9223372036854775808) (by omega), cond_false]
theorem sg_big {a b : Int} (h : szI a * szI b / 18446744073709551616 ≠ 0) : rkN 7 a b = (val0, 6) := by
  have hF : rkN 7 a b = if fitI (a * b) then (nV (a * b), 0) else (val0, 6) := rfl
  have hn : (a * b).natAbs = szI a * szI b := Int.natAbs_mul a b
  rw [hF, if_neg]
  intro hf
  unfold fitI at hf
  omega
theorem sg_div {a b : Int} (ha : fitI a) (hb : fitI b) (h0 : b ≠ 0) : sgnF (decide (¬ (a < 0 ↔ b < 0))) (szI a / szI b) = rkN 8 a b := by
  have hF : rkN 8 a b = if b = 0 then (val0, 7) else if fitI (a.tdiv b) then (nV (a.tdiv b), 0) else (val0, 6) := rfl
  rw [hF, if_neg h0]
  have hn : (a.tdiv b).natAbs = szI a / szI b := Int.natAbs_tdiv a b
  rw [← hn]
  have hsg : (¬ (a < 0 ↔ b < 0)) → a.tdiv b ≤ 0 := fun h => by
    rcases Int.lt_or_le a 0 with h1 | h1
    · have h2 : 0 ≤ b := by omega
      have : 0 ≤ (-a).tdiv b := Int.tdiv_nonneg (by omega) h2
      rw [Int.neg_tdiv] at this
      omega
    · have h2 : b ≤ 0 := by omega
      have : 0 ≤ a.tdiv (-b) := Int.tdiv_nonneg h1 (by omega)
      rw [Int.tdiv_neg] at this
      omega
  have hsp : (a < 0 ↔ b < 0) → 0 ≤ a.tdiv b := fun h => by
    rcases Int.lt_or_le a 0 with h1 | h1
    · have : 0 ≤ (-a).tdiv (-b) := Int.tdiv_nonneg (by omega) (by omega)
      rw [Int.neg_tdiv_neg] at this
      exact this
    · exact Int.tdiv_nonneg h1 (by omega)
  generalize a.tdiv b = m at *
  unfold sgnF
  by_cases hs : a < 0 ↔ b < 0
  · have := hsp hs
    rw [decide_eq_false (not_not_intro hs), cond_false]
    by_cases hf : fitI m
    · rw [if_pos hf]
      unfold fitI at hf
      rw [ble_t (m := 9223372036854775807) (by omega), cond_true, show ((m.natAbs : Nat) : Int) = m by omega]
    · rw [if_neg hf]
      unfold fitI at hf
      rw [ble_f (m := 9223372036854775807) (by omega), cond_false]
  · have := hsg hs
    rw [decide_eq_true hs, cond_true]
    by_cases hf : fitI m
    · rw [if_pos hf]
      unfold fitI at hf
      rw [ble_t (m := 9223372036854775808) (by omega), cond_true, show -((m.natAbs : Nat) : Int) = m by omega]
    · rw [if_neg hf]
      unfold fitI at hf
      rw [ble_f (m := 9223372036854775808) (by omega), cond_false]
theorem rc_val {a b : Int} (hf : fitI (a + b)) : IntKind.i64.wrap ((a + 9223372036854775808 + (b + 9223372036854775808) + 0) % 18446744073709551616) = a + b :=
  i_of hf ⟨1 - (a + 9223372036854775808 + (b + 9223372036854775808) + 0) / 18446744073709551616, by omega⟩
theorem rc_sub {a b : Int} (ha : fitI a) (hb : fitI b) {x y : Nat} (hx : (x : Int) = a + 9223372036854775808) (hy : (y : Int) = b + 9223372036854775808) {s c : Nat} (hs : (x + 18446744073709551616 - y - 0) % 18446744073709551616 = s) (hc : (if x < y + 0 then 1 else 0) = c) : (((c : Int) = 0 ∧ 9223372036854775808 ≤ (s : Int)) ∨ ((c : Int) = 1 ∧ (s : Int) < 9223372036854775808)) ↔ ¬ fitI (a - b) := by
  unfold fitI at *
  subst hs
  subst hc
  split <;> omega
theorem rs_val {a b : Int} (ha : fitI a) (hb : fitI b) {x y : Nat} (hx : (x : Int) = a + 9223372036854775808) (hy : (y : Int) = b + 9223372036854775808) {s : Nat} (hs : (x + 18446744073709551616 - y - 0) % 18446744073709551616 = s) (hf : fitI (a - b)) : IntKind.i64.wrap (s : Int) = a - b := by
  refine i_of hf ?_
  rcases Int.lt_or_le a b with h | h
  · exact ⟨1, by unfold fitI at *; omega⟩
  · exact ⟨0, by unfold fitI at *; omega⟩
theorem bqOr (A B C D : Prop) [Decidable A] [Decidable B] [Decidable C] [Decidable D] : (bif (bif decide A then decide B else false) then true else (bif decide C then decide D else false)) = decide ((A ∧ B) ∨ (C ∧ D)) := by
  by_cases h1 : A <;> by_cases h2 : B <;> by_cases h3 : C <;> by_cases h4 : D <;> simp [h1, h2, h3, h4]
set_option maxRecDepth 10000 in
set_option maxHeartbeats 2000000 in
theorem reckoned_fn (op a b : Int) (h5 : 5 ≤ op) (h8 : op ≤ 8) (ha : fitI a) (hb : fitI b) : FnD Tryz.prog 185 [.one (.e (eI op)), .one (.e (eI a)), .one (.e (eI b))] (rVE (rkN op a b)) := by
  refine fn_intro (T := tab) tOk Tryz.func185 rfl (by kernel_rfl) (by simp [Tryz.ntmps185]) ?_
  intro X hX
  have hnt : X.nt = 118 := hX
  clear hX
  repeat' first | refine zzs ?_ | refine zzb ?_ | refine zzk ?_
  first | refine zzr hnt rfl ?_ ?_ | refine zzd hnt rfl ?_ ?_
  · exact zzt
  repeat' first | refine zzs ?_ | refine zzb ?_ | refine zzk ?_
  first | refine zzr hnt rfl ?_ ?_ | refine zzd hnt rfl ?_ ?_
  · exact zzt
  repeat' first | refine zzs ?_ | refine zzb ?_ | refine zzk ?_
  first | refine zzr hnt rfl ?_ ?_ | refine zzd hnt rfl ?_ ?_
  · exact zzt
  rcases (by omega : op = 5 ∨ op = 6 ∨ op = 7 ∨ op = 8) with rfl | rfl | rfl | rfl
  · have hF : rkN 5 a b = if fitI (a + b) then (nV (a + b), 0) else (val0, 6) := rfl
    rw [hF]
    repeat' first | refine zzs ?_ | refine zzb ?_ | refine zzk ?_
    refine tr_cond rfl (fun hc => ?_) (fun hc => ?_)
    · exact absurd (show false = true from hc) Bool.noConfusion
    repeat' first | refine zzs ?_ | refine zzb ?_ | refine zzk ?_
    first | refine zzr hnt rfl ?_ ?_ | refine zzd hnt rfl ?_ ?_
    · exact zzt
    repeat' first | refine zzs ?_ | refine zzb ?_ | refine zzk ?_
    refine tr_cond rfl (fun hc => ?_) (fun hc => ?_)
    rotate_left
    · exact absurd (show true = false from hc) Bool.noConfusion
    repeat' first | refine zzs ?_ | refine zzb ?_ | refine zzk ?_
    first | refine zzr hnt rfl ?_ ?_ | refine zzd hnt rfl ?_ ?_
    · exact zzt
    rw [top_i ha, top_i hb]
    repeat' first | refine zzs ?_ | refine zzb ?_ | refine zzk ?_
    first | refine zzr hnt rfl ?_ ?_ | refine zzd hnt rfl ?_ ?_
    · exact zzt
    repeat' first | refine zzs ?_ | refine zzb ?_ | refine zzk ?_
    refine tr_cond rfl (fun hc => ?_) (fun hc => ?_)
    rotate_left
    · exact absurd (show true = false from hc) Bool.noConfusion
    have h1 := add64_ext (a + 9223372036854775808) (b + 9223372036854775808) (by have := ha.1; omega) (by have := hb.1; omega)
    have hx := rc_add ha hb
    have hv := rc_val (a := a) (b := b)
    generalize (a + 9223372036854775808 + (b + 9223372036854775808) + 0) % 18446744073709551616 = s at *
    generalize (a + 9223372036854775808 + (b + 9223372036854775808) + 0) / 18446744073709551616 = c at *
    repeat' first | refine zzs ?_ | refine zzb ?_ | refine zzk ?_
    refine tr_region (zzx hnt rfl ?_ (callE rfl rfl rfl rfl rfl rfl rfl hnt (h1) (zzx hnt rfl ?_ (Lex.nil _)))) ?_
    · exact zzt
    · exact zzt
    repeat' first | refine zzs ?_ | refine zzr hnt rfl ?_ ?_ | refine zzd hnt rfl ?_ ?_ | refine zzb ?_ | refine zzk ?_
    · exact zzt
    rw [bqOr]
    repeat' first | refine zzs ?_ | refine zzb ?_ | refine zzk ?_
    refine tr_cond rfl (fun hc => ?_) (fun hc => ?_)
    · have hf := hx.1 (of_decide_eq_true hc)
      rw [if_neg hf]
      repeat' first | refine zzs ?_ | refine zzr hnt rfl ?_ ?_ | refine zzd hnt rfl ?_ ?_ | refine zzb ?_ | refine zzk ?_
      · exact zzt
      exact tr_ret ⟨.inr rfl, _, _, rfl, zzp, rfl⟩
    have hf : fitI (a + b) := Classical.not_not.1 (fun e => of_decide_eq_false hc (hx.2 e))
    rw [if_pos hf]
    repeat' first | refine zzs ?_ | refine zzb ?_ | refine zzk ?_
    refine tr_region (zzx hnt rfl ?_ (call rfl rfl rfl rfl rfl rfl rfl hnt (intOf_fn _) (zzx hnt rfl ?_ (Lex.nil _)))) ?_
    · exact zzt
    · exact zzt
    rw [hv hf]
    exact tr_ret ⟨.inr rfl, _, _, rfl, zzp, rfl⟩
  · have hF : rkN 6 a b = if fitI (a - b) then (nV (a - b), 0) else (val0, 6) := rfl
    rw [hF]
    repeat' first | refine zzs ?_ | refine zzb ?_ | refine zzk ?_
    refine tr_cond rfl (fun hc => ?_) (fun hc => ?_)
    rotate_left
    · exact absurd (show true = false from hc) Bool.noConfusion
    repeat' first | refine zzs ?_ | refine zzb ?_ | refine zzk ?_
    repeat' first | refine zzs ?_ | refine zzb ?_ | refine zzk ?_
    refine tr_cond rfl (fun hc => ?_) (fun hc => ?_)
    rotate_left
    · exact absurd (show true = false from hc) Bool.noConfusion
    repeat' first | refine zzs ?_ | refine zzb ?_ | refine zzk ?_
    first | refine zzr hnt rfl ?_ ?_ | refine zzd hnt rfl ?_ ?_
    · exact zzt
    rw [top_i ha, top_i hb]
    repeat' first | refine zzs ?_ | refine zzb ?_ | refine zzk ?_
    first | refine zzr hnt rfl ?_ ?_ | refine zzd hnt rfl ?_ ?_
    · exact zzt
    repeat' first | refine zzs ?_ | refine zzb ?_ | refine zzk ?_
    refine tr_cond rfl (fun hc => ?_) (fun hc => ?_)
    · exact absurd (show false = true from hc) Bool.noConfusion
    obtain ⟨x, hx⟩ : ∃ x : Nat, a + 9223372036854775808 = (x : Int) := Int.eq_ofNat_of_zero_le (by have := ha.1; omega)
    obtain ⟨y, hy⟩ : ∃ y : Nat, b + 9223372036854775808 = (y : Int) := Int.eq_ofNat_of_zero_le (by have := hb.1; omega)
    rw [hx, hy]
    have h1 := sub64_ext x y
    have h2 := rc_sub ha hb hx.symm hy.symm rfl rfl
    have hv := rs_val ha hb hx.symm hy.symm rfl
    generalize (x + 18446744073709551616 - y - 0) % 18446744073709551616 = s at *
    generalize (if x < y + 0 then 1 else 0) = c at *
    repeat' first | refine zzs ?_ | refine zzb ?_ | refine zzk ?_
    refine tr_region (zzx hnt rfl ?_ (callE rfl rfl rfl rfl rfl rfl rfl hnt (h1) (zzx hnt rfl ?_ (Lex.nil _)))) ?_
    · exact zzt
    · exact zzt
    repeat' first | refine zzs ?_ | refine zzr hnt rfl ?_ ?_ | refine zzd hnt rfl ?_ ?_ | refine zzb ?_ | refine zzk ?_
    · exact zzt
    rw [bqOr]
    repeat' first | refine zzs ?_ | refine zzb ?_ | refine zzk ?_
    refine tr_cond rfl (fun hc => ?_) (fun hc => ?_)
    · have hf := h2.1 (of_decide_eq_true hc)
      rw [if_neg hf]
      repeat' first | refine zzs ?_ | refine zzr hnt rfl ?_ ?_ | refine zzd hnt rfl ?_ ?_ | refine zzb ?_ | refine zzk ?_
      · exact zzt
      exact tr_ret ⟨.inr rfl, _, _, rfl, zzp, rfl⟩
    have hf : fitI (a - b) := Classical.not_not.1 (fun e => of_decide_eq_false hc (h2.2 e))
    rw [if_pos hf]
    repeat' first | refine zzs ?_ | refine zzb ?_ | refine zzk ?_
    refine tr_region (zzx hnt rfl ?_ (call rfl rfl rfl rfl rfl rfl rfl hnt (intOf_fn _) (zzx hnt rfl ?_ (Lex.nil _)))) ?_
    · exact zzt
    · exact zzt
    rw [hv hf]
    exact tr_ret ⟨.inr rfl, _, _, rfl, zzp, rfl⟩
  · repeat' first | refine zzs ?_ | refine zzb ?_ | refine zzk ?_
    refine tr_cond rfl (fun hc => ?_) (fun hc => ?_)
    · exact absurd (show false = true from hc) Bool.noConfusion
    repeat' first | refine zzs ?_ | refine zzb ?_ | refine zzk ?_
    first | refine zzr hnt rfl ?_ ?_ | refine zzd hnt rfl ?_ ?_
    · exact zzt
    repeat' first | refine zzs ?_ | refine zzb ?_ | refine zzk ?_
    refine tr_cond rfl (fun hc => ?_) (fun hc => ?_)
    · exact absurd (show false = true from hc) Bool.noConfusion
    repeat' first | refine zzs ?_ | refine zzb ?_ | refine zzk ?_
    first | refine zzr hnt rfl ?_ ?_ | refine zzd hnt rfl ?_ ?_
    · exact zzt
    repeat' first | refine zzs ?_ | refine zzb ?_ | refine zzk ?_
    refine tr_cond rfl (fun hc => ?_) (fun hc => ?_)
    rotate_left
    · exact absurd (show true = false from hc) Bool.noConfusion
    have l1 : szI a < 18446744073709551616 := by have := ha.1; have := ha.2; unfold szI; omega
    have l2 : szI b < 18446744073709551616 := by have := hb.1; have := hb.2; unfold szI; omega
    have g1 := sizeOf_fn a ha
    have g2 := sizeOf_fn b hb
    have g3 := mul64_fn (szI a) (szI b) l1 l2
    have q1 := sg_mul ha hb
    have q2 := sg_big (a := a) (b := b)
    generalize szI a * szI b / 18446744073709551616 = hi at *
    generalize szI a * szI b % 18446744073709551616 = lo at *
    repeat' first | refine zzs ?_ | refine zzb ?_ | refine zzk ?_
    refine tr_region (zzx hnt rfl ?_ (call rfl rfl rfl rfl rfl rfl rfl hnt (g1) (zzx hnt rfl ?_ (call rfl rfl rfl rfl rfl rfl rfl hnt (g2) (zzx hnt rfl ?_ (call rfl rfl rfl rfl rfl rfl rfl hnt (g3) (zzx hnt rfl ?_ (Lex.nil _)))))))) ?_
    · exact zzt
    · exact zzt
    · exact zzt
    · exact zzt
    repeat' first | refine zzs ?_ | refine zzr hnt rfl ?_ ?_ | refine zzd hnt rfl ?_ ?_ | refine zzb ?_ | refine zzk ?_
    · exact zzt
    repeat' first | refine zzs ?_ | refine zzb ?_ | refine zzk ?_
    refine tr_cond rfl (fun hc => ?_) (fun hc => ?_)
    · simp only [zz1, zz2, zz3, zz4, zz5, zz6, zz7, zz8] at hc
      rw [q2 (by omega)]
      repeat' first | refine zzs ?_ | refine zzr hnt rfl ?_ ?_ | refine zzd hnt rfl ?_ ?_ | refine zzb ?_ | refine zzk ?_
      · exact zzt
      exact tr_ret ⟨.inr rfl, _, _, rfl, zzp, rfl⟩
    simp only [zz1, zz2, zz3, zz4, zz5, zz6, zz7, zz8] at hc
    rw [← q1 (by omega)]
    have g4 := signed_fn (decide (¬ (a < 0 ↔ b < 0))) lo
    rw [← neg_b] at g4 ⊢
    generalize sgnF _ lo = A at *
    repeat' first | refine zzs ?_ | refine zzb ?_ | refine zzk ?_
    refine tr_region (zzx hnt rfl ?_ (call rfl rfl rfl rfl rfl rfl rfl hnt (g4) (zzx hnt rfl ?_ (Lex.nil _)))) ?_
    · exact zzt
    · exact zzt
    exact tr_ret ⟨.inr rfl, _, _, rfl, zzp, rfl⟩
  · repeat' first | refine zzs ?_ | refine zzb ?_ | refine zzk ?_
    refine tr_cond rfl (fun hc => ?_) (fun hc => ?_)
    · exact absurd (show false = true from hc) Bool.noConfusion
    repeat' first | refine zzs ?_ | refine zzb ?_ | refine zzk ?_
    first | refine zzr hnt rfl ?_ ?_ | refine zzd hnt rfl ?_ ?_
    · exact zzt
    repeat' first | refine zzs ?_ | refine zzb ?_ | refine zzk ?_
    refine tr_cond rfl (fun hc => ?_) (fun hc => ?_)
    · exact absurd (show false = true from hc) Bool.noConfusion
    repeat' first | refine zzs ?_ | refine zzb ?_ | refine zzk ?_
    first | refine zzr hnt rfl ?_ ?_ | refine zzd hnt rfl ?_ ?_
    · exact zzt
    repeat' first | refine zzs ?_ | refine zzb ?_ | refine zzk ?_
    refine tr_cond rfl (fun hc => ?_) (fun hc => ?_)
    · exact absurd (show false = true from hc) Bool.noConfusion
    repeat' first | refine zzs ?_ | refine zzb ?_ | refine zzk ?_
    first | refine zzr hnt rfl ?_ ?_ | refine zzd hnt rfl ?_ ?_
    · exact zzt
    repeat' first | refine zzs ?_ | refine zzb ?_ | refine zzk ?_
    refine tr_cond rfl (fun hc => ?_) (fun hc => ?_)
    · simp only [zz1, zz2, zz3, zz4, zz5, zz6, zz7, zz8] at hc
      have hF : rkN 8 a b = (val0, 7) := if_pos hc
      rw [hF]
      repeat' first | refine zzs ?_ | refine zzr hnt rfl ?_ ?_ | refine zzd hnt rfl ?_ ?_ | refine zzb ?_ | refine zzk ?_
      · exact zzt
      exact tr_ret ⟨.inr rfl, _, _, rfl, zzp, rfl⟩
    simp only [zz1, zz2, zz3, zz4, zz5, zz6, zz7, zz8] at hc
    have g1 := sizeOf_fn a ha
    have g2 := sizeOf_fn b hb
    rw [← sg_div ha hb hc]
    have g4 := signed_fn (decide (¬ (a < 0 ↔ b < 0))) (szI a / szI b)
    have hq : IntKind.u64.wrap (((szI a : Nat) : Int).tdiv ((szI b : Nat) : Int)) = ((szI a / szI b : Nat) : Int) := by
      have l1 : szI a < 18446744073709551616 := by have := ha.1; have := ha.2; unfold szI; omega
      have l3 : szI a / szI b ≤ szI a := Nat.div_le_self _ _
      rw [← Int.ofNat_tdiv]
      exact u_id (Int.natCast_nonneg _) (Int.ofNat_lt.2 (Nat.lt_of_le_of_lt l3 l1))
    rw [← neg_b] at g4 ⊢
    generalize sgnF _ (szI a / szI b) = A at *
    rw [← hq] at g4
    have hb0 : szI b ≠ 0 := by unfold szI; omega
    repeat' first | refine zzs ?_ | refine zzb ?_ | refine zzk ?_
    refine tr_region (zzx hnt rfl ?_ (call rfl rfl rfl rfl rfl rfl rfl hnt (g1) (zzx hnt rfl ?_ (call rfl rfl rfl rfl rfl rfl rfl hnt (g2) (zzx hnt rfl ?_ (call rfl rfl rfl rfl rfl rfl rfl hnt (g4) (zzx hnt rfl ?_ (Lex.nil _)))))))) ?_
    · exact zzt
    · exact zzt
    · exact zza
    · exact zzt
    exact tr_ret ⟨.inr rfl, _, _, rfl, zzp, rfl⟩
end Go.Proofs.YthnadkafegmacaaGreatDoor
namespace Go.Proofs.YthnadkafegmacaaGreatDoor
open Go Go.RowKit Go.Proofs.YthnadkafegmacaaGreatDoor.Ab
set_option linter.unusedSimpArgs false
set_option linter.unusedVariables false

def clash (k : Int) (v : Val) : Prop := k ≠ 0 ∧ v.k ≠ 0 ∧ v.k ≠ k
instance (k : Int) (v : Val) : Decidable (clash k v) := inferInstanceAs (Decidable (_ ∧ _))
def dF (op : Int) (v w : Val) : Val × Int := if op = 3 ∨ op = 4 ∨ op = 17 ∨ op = 18 then oneF op v else tw2F op v w
def dOk (op : Int) (w : Val) : Prop := (op1 op ∧ w = val0) ∨ op2 op
theorem adF_f {k : Int} {v w : Val} (h : (v.k ≠ 0 ∧ v.k ≠ k) ∨ (w.k ≠ 0 ∧ w.k ≠ k)) : adF k v w = false := decide_eq_false (by omega)
theorem adF_t {k : Int} {v w : Val} (h1 : ¬ (v.k ≠ 0 ∧ v.k ≠ k)) (h2 : ¬ (w.k ≠ 0 ∧ w.k ≠ k)) : ¬ adF k v w = false := by
  have := decide_eq_true (p := (v.k = 0 ∨ v.k = k) ∧ (w.k = 0 ∨ w.k = k)) (by omega)
  unfold adF
  rw [this]
  exact fun e => Bool.noConfusion e
theorem dF_clash {op : Int} {v w : Val} (ho : dOk op w) (h : clash (afF op).1 v ∨ clash (afF op).1 w) : dF op v w = (val0, 2) := by
  have hw0 : op1 op → w = val0 := fun h1 => by
    rcases ho with h2 | h2
    · exact h2.2
    · unfold op1 at h1; unfold op2 at h2; omega
  unfold clash at h
  by_cases h1 : op1 op
  · rw [hw0 h1] at h
    have h : (afF op).1 ≠ 0 ∧ v.k ≠ 0 ∧ v.k ≠ (afF op).1 := by
      rcases h with h | h
      · exact h
      · exact absurd rfl h.2.1
    unfold dF
    rw [if_pos (show op = 3 ∨ op = 4 ∨ op = 17 ∨ op = 18 from h1)]
    unfold op1 at h1
    rcases h1 with rfl | rfl | rfl | rfl
    · have h : v.k ≠ 0 ∧ v.k ≠ 2 := h.2
      show (if v.k = 0 then (val0, (0 : Int)) else if v.k ≠ 2 then (val0, 2) else _) = _
      rw [if_neg h.1, if_pos h.2]
    · have h : v.k ≠ 0 ∧ v.k ≠ 1 := h.2
      show (if v.k = 0 then (val0, (0 : Int)) else if v.k ≠ 1 then (val0, 2) else _) = _
      rw [if_neg h.1, if_pos h.2]
    · exact absurd rfl h.1
    · have h : v.k ≠ 0 ∧ v.k ≠ 4 := h.2
      show (if v.k = 0 then (val0, (0 : Int)) else if v.k ≠ 4 then (val0, 2) else _) = _
      rw [if_neg h.1, if_pos h.2]
  · have h2 : op2 op := by rcases ho with h2 | h2; exact absurd h2.1 h1; exact h2
    unfold dF
    rw [if_neg (show ¬ (op = 3 ∨ op = 4 ∨ op = 17 ∨ op = 18) from h1)]
    unfold op2 at h2
    unfold tw2F
    by_cases o1 : op = 15 ∨ op = 16
    · rw [if_pos o1]
      have e : (afF op).1 = 1 := by rcases o1 with rfl | rfl <;> rfl
      rw [e] at h
      unfold lgF
      rw [if_pos (by omega)]
    rw [if_neg o1]
    by_cases o20 : op = 20
    · subst o20
      exact absurd (show (0 : Int) ≠ 0 from h.elim (fun h => h.1) (fun h => h.1)) (by decide)
    rw [if_neg o20]
    by_cases o19 : op = 19
    · subst o19
      have h : (v.k ≠ 0 ∧ v.k ≠ 4) ∨ (w.k ≠ 0 ∧ w.k ≠ 4) := h.imp (fun h => h.2) (fun h => h.2)
      rw [if_pos rfl]
      unfold jnF
      rw [if_pos (adF_f h)]
    rw [if_neg o19]
    by_cases o5 : 5 ≤ op ∧ op ≤ 8
    · rw [if_pos o5]
      have e : (afF op).1 = 2 := by rcases (by omega : op = 5 ∨ op = 6 ∨ op = 7 ∨ op = 8) with rfl | rfl | rfl | rfl <;> rfl
      rw [e] at h
      have h : (v.k ≠ 0 ∧ v.k ≠ 2) ∨ (w.k ≠ 0 ∧ w.k ≠ 2) := h.imp (fun h => h.2) (fun h => h.2)
      unfold rkF
      rw [if_pos (adF_f h)]
    · have e : (afF op).1 = 0 := by rcases (by omega : op = 9 ∨ op = 10 ∨ op = 11 ∨ op = 12 ∨ op = 13 ∨ op = 14) with rfl | rfl | rfl | rfl | rfl | rfl <;> rfl
      rw [e] at h
      exact absurd rfl (h.elim (fun h => h.1) (fun h => h.1))
theorem boF_tr {t : Int} (h : 0 ≤ t ∧ t ≤ 2) : boF t = trV t := by
  rcases (by omega : t = 0 ∨ t = 1 ∨ t = 2) with rfl | rfl | rfl <;> rfl
theorem clB (k : Int) (x : Val) : (bif (bif !decide (k = 0) then !decide (x.k = 0) else false) then !decide (x.k = k) else false) = decide (clash k x) := by
  unfold clash
  by_cases h1 : k = 0 <;> by_cases h2 : x.k = 0 <;> by_cases h3 : x.k = k <;> simp [h1, h2, h3]
set_option maxRecDepth 10000 in
set_option maxHeartbeats 2000000 in
theorem did_fn (op : Int) (v w : Val) (hv : good v) (hw : good w) (ho : dOk op w) : FnD Tryz.prog 112 [.one (.e (eI op)), .agg (.es (eVal v)), .agg (.es (eVal w))] (rVE (dF op v w)) := by
  refine fn_intro (T := tab) tOk Tryz.func112 rfl (by kernel_rfl) (by simp [Tryz.ntmps112]) ?_
  intro X hX
  have hnt : X.nt = 165 := hX
  clear hX
  have hcl := dF_clash (v := v) ho
  have h1 := asksFor_fn op
  generalize hak : (afF op).1 = ak at *
  generalize (afF op).2 = gv at *
  repeat' first | refine zzs ?_ | refine zzr hnt rfl ?_ ?_ | refine zzd hnt rfl ?_ ?_ | refine zzb ?_ | refine zzk ?_
  · exact zzt
  repeat' first | refine zzs ?_ | refine zzb ?_ | refine zzk ?_
  refine tr_region (zzx hnt rfl ?_ (call rfl rfl rfl rfl rfl rfl rfl hnt (h1) (zzx hnt rfl ?_ (Lex.nil _)))) ?_
  · exact zzt
  · exact zzt
  repeat' first | refine zzs ?_ | refine zzb ?_ | refine zzk ?_
  first | refine zzr hnt rfl ?_ ?_ | refine zzd hnt rfl ?_ ?_
  · exact zzt
  repeat' first | refine zzs ?_ | refine zzb ?_ | refine zzk ?_
  refine tr_loop (σ := Nat) (fun i => St.of [(0, .one (.e (eI op))), (4, .one (.ptr 4 0 0)), (5, .one (.ptr 5 0 0)), (6, .one (.ptr 6 0 0)), (8, .one (.e (eI ak))), (26, .one (.own 26 0)), (27, .one (.e (eI 2))), (28, .one (.e (eI (i : Int))))] [(4, ⟨0, .box (.es (eVal v)), 0⟩), (5, ⟨0, .box (.es (eVal w)), 0⟩), (6, ⟨0, .box (.es (eVal val0)), 0⟩), (26, ⟨0, .row 4 [eVal v, eVal w], 0⟩)]) (fun i => i ≤ 2 ∧ (0 < i → ¬ clash ak v) ∧ (1 < i → ¬ clash ak w)) (fun i => 2 - i) (0) (le_of (ad := []) ⟨zzl, zzl, zzl, zzl, zzl, zzl, zzl, zzl, trivial⟩ (memOk_box rfl rfl rfl (memOk_box rfl rfl rfl (memOk_box rfl rfl rfl (memOk_row rfl rfl rfl trivial))))) ⟨Nat.zero_le _, fun h => absurd h (by decide), fun h => absurd h (by decide)⟩ ?_
  rintro i ⟨il, hi1, hi2⟩
  repeat' first | refine zzs ?_ | refine zzr hnt rfl ?_ ?_ | refine zzd hnt rfl ?_ ?_ | refine zzb ?_ | refine zzk ?_
  · exact zzt
  repeat' first | refine zzs ?_ | refine zzb ?_ | refine zzk ?_
  refine tr_cond rfl (fun hc => ?_) (fun hc => ?_)
  · simp only [zz1, zz2, zz3, zz4, zz5, zz6, zz7, zz8] at hc
    rcases (by omega : i = 0 ∨ i = 1) with rfl | rfl
    · repeat' first | refine zzs ?_ | refine zzb ?_ | refine zzk ?_
      first | refine zzr hnt rfl ?_ ?_ | refine zzd hnt rfl ?_ ?_
      · exact zza
      repeat' first | refine zzs ?_ | refine zzb ?_ | refine zzk ?_
      first | refine zzr hnt rfl ?_ ?_ | refine zzd hnt rfl ?_ ?_
      · exact zza
      repeat' first | refine zzs ?_ | refine zzb ?_ | refine zzk ?_
      refine tr_cond rfl (fun hc => ?_) (fun hc => ?_)
      · have hc : (bif (bif !decide (ak = 0) then !decide ((v).k = 0) else false) then !decide ((v).k = ak) else false) = true := hc
        rw [clB] at hc
        rw [hcl (.inl (of_decide_eq_true hc))]
        repeat' first | refine zzs ?_ | refine zzr hnt rfl ?_ ?_ | refine zzd hnt rfl ?_ ?_ | refine zzb ?_ | refine zzk ?_
        · exact zzt
        exact tr_ret ⟨.inr rfl, _, _, rfl, zzp, rfl⟩
      have hc : (bif (bif !decide (ak = 0) then !decide ((v).k = 0) else false) then !decide ((v).k = ak) else false) = false := hc
      rw [clB] at hc
      have hc := of_decide_eq_false hc
      repeat' first | refine zzs ?_ | refine zzr hnt rfl ?_ ?_ | refine zzd hnt rfl ?_ ?_ | refine zzb ?_ | refine zzk ?_
      · exact zzt
      refine ⟨1, ⟨by decide, by (first | exact fun _ => hc | exact fun _ => hi1 (by decide)), by (first | exact fun _ => hc | exact fun h => absurd h (by decide))⟩, by decide, le_of (ad := []) ⟨zzl, zzl, zzl, zzl, zzl, zzl, zzl, zzl, trivial⟩ (memOk_box rfl rfl rfl (memOk_box rfl rfl rfl (memOk_box rfl rfl rfl (memOk_row rfl rfl rfl trivial))))⟩
    · repeat' first | refine zzs ?_ | refine zzb ?_ | refine zzk ?_
      first | refine zzr hnt rfl ?_ ?_ | refine zzd hnt rfl ?_ ?_
      · exact zza
      repeat' first | refine zzs ?_ | refine zzb ?_ | refine zzk ?_
      first | refine zzr hnt rfl ?_ ?_ | refine zzd hnt rfl ?_ ?_
      · exact zza
      repeat' first | refine zzs ?_ | refine zzb ?_ | refine zzk ?_
      refine tr_cond rfl (fun hc => ?_) (fun hc => ?_)
      · have hc : (bif (bif !decide (ak = 0) then !decide ((w).k = 0) else false) then !decide ((w).k = ak) else false) = true := hc
        rw [clB] at hc
        rw [hcl (.inr (of_decide_eq_true hc))]
        repeat' first | refine zzs ?_ | refine zzr hnt rfl ?_ ?_ | refine zzd hnt rfl ?_ ?_ | refine zzb ?_ | refine zzk ?_
        · exact zzt
        exact tr_ret ⟨.inr rfl, _, _, rfl, zzp, rfl⟩
      have hc : (bif (bif !decide (ak = 0) then !decide ((w).k = 0) else false) then !decide ((w).k = ak) else false) = false := hc
      rw [clB] at hc
      have hc := of_decide_eq_false hc
      repeat' first | refine zzs ?_ | refine zzr hnt rfl ?_ ?_ | refine zzd hnt rfl ?_ ?_ | refine zzb ?_ | refine zzk ?_
      · exact zzt
      refine ⟨2, ⟨by decide, by (first | exact fun _ => hc | exact fun _ => hi1 (by decide)), by (first | exact fun _ => hc | exact fun h => absurd h (by decide))⟩, by decide, le_of (ad := []) ⟨zzl, zzl, zzl, zzl, zzl, zzl, zzl, zzl, trivial⟩ (memOk_box rfl rfl rfl (memOk_box rfl rfl rfl (memOk_box rfl rfl rfl (memOk_row rfl rfl rfl trivial))))⟩
  simp only [zz1, zz2, zz3, zz4, zz5, zz6, zz7, zz8] at hc
  have hi : i = 2 := by omega
  subst hi
  have nv := hi1 (by decide)
  have nw := hi2 (by decide)
  clear hcl hi1 hi2 hc il
  refine tr_exit ?_
  repeat' first | refine zzs ?_ | refine zzr hnt rfl ?_ ?_ | refine zzd hnt rfl ?_ ?_ | refine zzb ?_ | refine zzk ?_
  · exact zzt
  · exact zzt
  by_cases o17 : op = 17
  · subst o17
    have hF : dF 17 v w = (bV (decide (v.k = 0)), 0) := rfl
    rw [hF]
    repeat' first | refine zzs ?_ | refine zzb ?_ | refine zzk ?_
    refine tr_cond rfl (fun hc => ?_) (fun hc => ?_)
    rotate_left
    · exact absurd (show true = false from hc) Bool.noConfusion
    repeat' first | refine zzs ?_ | refine zzb ?_ | refine zzk ?_
    first | refine zzr hnt rfl ?_ ?_ | refine zzd hnt rfl ?_ ?_
    · exact zzt
    repeat' first | refine zzs ?_ | refine zzb ?_ | refine zzk ?_
    refine tr_cond rfl (fun hc => ?_) (fun hc => ?_)
    · simp only [zz1, zz2, zz3, zz4, zz5, zz6, zz7, zz8] at hc
      (try simp only [eVal0] at hc)
      (try simp only [zz1, zz2, zz3, zz4, zz5, zz6, zz7, zz8] at hc)
      rw [decide_eq_true hc]
      repeat' first | refine zzs ?_ | refine zzb ?_ | refine zzk ?_
      refine tr_region (zzx hnt rfl ?_ (call rfl rfl rfl rfl rfl rfl rfl hnt (boolOf_fn _) (zzx hnt rfl ?_ (Lex.nil _)))) ?_
      · exact zzt
      · exact zzt
      exact tr_ret ⟨.inr rfl, _, _, rfl, zzp, rfl⟩
    simp only [zz1, zz2, zz3, zz4, zz5, zz6, zz7, zz8] at hc
    (try simp only [eVal0] at hc)
    (try simp only [zz1, zz2, zz3, zz4, zz5, zz6, zz7, zz8] at hc)
    rw [decide_eq_false hc]
    repeat' first | refine zzs ?_ | refine zzb ?_ | refine zzk ?_
    refine tr_region (zzx hnt rfl ?_ (call rfl rfl rfl rfl rfl rfl rfl hnt (boolOf_fn _) (zzx hnt rfl ?_ (Lex.nil _)))) ?_
    · exact zzt
    · exact zzt
    exact tr_ret ⟨.inr rfl, _, _, rfl, zzp, rfl⟩
  repeat' first | refine zzs ?_ | refine zzb ?_ | refine zzk ?_
  refine tr_cond rfl (fun hc => ?_) (fun hc => ?_)
  · exact absurd (of_decide_eq_true hc) o17
  repeat' first | refine zzs ?_ | refine zzb ?_ | refine zzk ?_
  first | refine zzr hnt rfl ?_ ?_ | refine zzd hnt rfl ?_ ?_
  · exact zzt
  by_cases o1 : op = 15 ∨ op = 16
  · have ea : ak = 1 := by rw [← hak]; rcases o1 with rfl | rfl <;> rfl
    subst ea
    have kv : v.k = 0 ∨ v.k = 1 := by have nv : ¬ clash 1 v := nv; unfold clash at nv; omega
    have kw : w.k = 0 ∨ w.k = 1 := by have nw : ¬ clash 1 w := nw; unfold clash at nw; omega
    have tv := tO_rng hv kv
    have tw := tO_rng hw kw
    have g1 := truthOf_fn v hv kv
    have g2 := truthOf_fn w hw kw
    have hF : dF op v w = (trV (if op = 16 then max (tO v) (tO w) else min (tO v) (tO w)), 0) := by
      unfold dF tw2F
      rw [if_neg (by omega), if_pos o1]
      exact if_neg (by omega)
    rw [hF]
    rcases o1 with rfl | rfl
    · have g3 := logicR_fn 1 (tO v) (tO w) (.inl rfl) tv tw
      have e : (if (15 : Int) = 16 then max (tO v) (tO w) else min (tO v) (tO w)) = min (tO v) (tO w) := rfl
      have e2 : (if (1 : Int) = 2 then max (tO v) (tO w) else min (tO v) (tO w)) = min (tO v) (tO w) := rfl
      rw [e2] at g3
      rw [e, ← boF_tr (by omega)]
      repeat' first | refine zzs ?_ | refine zzb ?_ | refine zzk ?_
      refine tr_cond rfl (fun hc => ?_) (fun hc => ?_)
      rotate_left
      · exact absurd (show true = false from hc) Bool.noConfusion
      repeat' first | refine zzs ?_ | refine zzb ?_ | refine zzk ?_
      repeat' first | refine zzs ?_ | refine zzb ?_ | refine zzk ?_
      refine tr_cond rfl (fun hc => ?_) (fun hc => ?_)
      rotate_left
      · exact absurd (show true = false from hc) Bool.noConfusion
      repeat' first | refine zzs ?_ | refine zzb ?_ | refine zzk ?_
      refine tr_draw (T := tab) tOk hnt mixedR (lexD (T := tab) rfl ?_ (callD rfl rfl rfl rfl rfl rfl rfl rfl (g1) (lexD (T := tab) rfl ?_ (callD rfl rfl rfl rfl rfl rfl rfl rfl (g2) (lexD (T := tab) rfl ?_ (callD rfl rfl rfl rfl rfl rfl rfl rfl (g3) (lexD (T := tab) rfl ?_ (.nil _)))))))) (by first | decide +kernel | kernel_rfl) ?_
      · exact zzt
      · exact zzt
      · exact zzt
      · exact zzt
      repeat' first | refine zzs ?_ | refine zzb ?_ | refine zzk ?_
      refine tr_region (zzx hnt rfl ?_ (call rfl rfl rfl rfl rfl rfl rfl hnt (boolOf_fn _) (zzx hnt rfl ?_ (Lex.nil _)))) ?_
      · exact zzt
      · exact zzt
      exact tr_ret ⟨.inr rfl, _, _, rfl, zzp, rfl⟩
    · have g3 := logicR_fn 2 (tO v) (tO w) (.inr rfl) tv tw
      have e : (if (16 : Int) = 16 then max (tO v) (tO w) else min (tO v) (tO w)) = max (tO v) (tO w) := rfl
      have e2 : (if (2 : Int) = 2 then max (tO v) (tO w) else min (tO v) (tO w)) = max (tO v) (tO w) := rfl
      rw [e2] at g3
      rw [e, ← boF_tr (by omega)]
      repeat' first | refine zzs ?_ | refine zzb ?_ | refine zzk ?_
      refine tr_cond rfl (fun hc => ?_) (fun hc => ?_)
      · exact absurd (show false = true from hc) Bool.noConfusion
      repeat' first | refine zzs ?_ | refine zzb ?_ | refine zzk ?_
      first | refine zzr hnt rfl ?_ ?_ | refine zzd hnt rfl ?_ ?_
      · exact zzt
      repeat' first | refine zzs ?_ | refine zzb ?_ | refine zzk ?_
      refine tr_cond rfl (fun hc => ?_) (fun hc => ?_)
      rotate_left
      · exact absurd (show true = false from hc) Bool.noConfusion
      repeat' first | refine zzs ?_ | refine zzb ?_ | refine zzk ?_
      refine tr_draw (T := tab) tOk hnt mixedR (lexD (T := tab) rfl ?_ (callD rfl rfl rfl rfl rfl rfl rfl rfl (g1) (lexD (T := tab) rfl ?_ (callD rfl rfl rfl rfl rfl rfl rfl rfl (g2) (lexD (T := tab) rfl ?_ (callD rfl rfl rfl rfl rfl rfl rfl rfl (g3) (lexD (T := tab) rfl ?_ (.nil _)))))))) (by first | decide +kernel | kernel_rfl) ?_
      · exact zzt
      · exact zzt
      · exact zzt
      · exact zzt
      repeat' first | refine zzs ?_ | refine zzb ?_ | refine zzk ?_
      refine tr_region (zzx hnt rfl ?_ (call rfl rfl rfl rfl rfl rfl rfl hnt (boolOf_fn _) (zzx hnt rfl ?_ (Lex.nil _)))) ?_
      · exact zzt
      · exact zzt
      exact tr_ret ⟨.inr rfl, _, _, rfl, zzp, rfl⟩
  repeat' first | refine zzs ?_ | refine zzb ?_ | refine zzk ?_
  refine tr_cond rfl (fun hc => ?_) (fun hc => ?_)
  · exact absurd (of_decide_eq_true hc) (fun e => o1 (.inl e))
  repeat' first | refine zzs ?_ | refine zzb ?_ | refine zzk ?_
  first | refine zzr hnt rfl ?_ ?_ | refine zzd hnt rfl ?_ ?_
  · exact zzt
  repeat' first | refine zzs ?_ | refine zzb ?_ | refine zzk ?_
  refine tr_cond rfl (fun hc => ?_) (fun hc => ?_)
  · exact absurd (of_decide_eq_true hc) (fun e => o1 (.inr e))
  repeat' first | refine zzs ?_ | refine zzb ?_ | refine zzk ?_
  first | refine zzr hnt rfl ?_ ?_ | refine zzd hnt rfl ?_ ?_
  · exact zzt
  by_cases o4 : op = 4
  · subst o4
    have ea : ak = 1 := hak.symm
    subst ea
    have kv : v.k = 0 ∨ v.k = 1 := by have nv : ¬ clash 1 v := nv; unfold clash at nv; omega
    have tv := tO_rng hv kv
    have g1 := truthOf_fn v hv kv
    have g2 := opposite_fn (tO v) tv
    have hF : dF 4 v w = (boF (2 - tO v), 0) := by
      show (if v.k = 0 then (val0, (0 : Int)) else if v.k ≠ 1 then (val0, 2) else (⟨1, 1 - v.i, 0, []⟩, 0)) = _
      unfold tO
      by_cases k0 : v.k = 0
      · rw [if_pos k0, if_pos k0]; rfl
      · rw [if_neg k0, if_neg k0, if_neg (c := v.k ≠ 1) (not_not_intro (by omega))]
        have := (chk_cases hv.1).2.2.2.2.2.2 (by omega)
        rcases this with h | h <;> rw [h] <;> rfl
    rw [hF]
    repeat' first | refine zzs ?_ | refine zzb ?_ | refine zzk ?_
    refine tr_cond rfl (fun hc => ?_) (fun hc => ?_)
    rotate_left
    · exact absurd (show true = false from hc) Bool.noConfusion
    repeat' first | refine zzs ?_ | refine zzb ?_ | refine zzk ?_
    refine tr_region (zzx hnt rfl ?_ (call rfl rfl rfl rfl rfl rfl rfl hnt (g1) (zzx hnt rfl ?_ (call rfl rfl rfl rfl rfl rfl rfl hnt (g2) (zzx hnt rfl ?_ (Lex.nil _)))))) ?_
    · exact zzt
    · exact zzt
    · exact zzt
    repeat' first | refine zzs ?_ | refine zzb ?_ | refine zzk ?_
    refine tr_region (zzx hnt rfl ?_ (call rfl rfl rfl rfl rfl rfl rfl hnt (boolOf_fn _) (zzx hnt rfl ?_ (Lex.nil _)))) ?_
    · exact zzt
    · exact zzt
    exact tr_ret ⟨.inr rfl, _, _, rfl, zzp, rfl⟩
  repeat' first | refine zzs ?_ | refine zzb ?_ | refine zzk ?_
  refine tr_cond rfl (fun hc => ?_) (fun hc => ?_)
  · exact absurd (of_decide_eq_true hc) o4
  repeat' first | refine zzs ?_ | refine zzb ?_ | refine zzk ?_
  first | refine zzr hnt rfl ?_ ?_ | refine zzd hnt rfl ?_ ?_
  · exact zzt
  by_cases o20 : op = 20
  · subst o20
    have hF : dF 20 v w = (w, 0) := rfl
    rw [hF]
    repeat' first | refine zzs ?_ | refine zzb ?_ | refine zzk ?_
    refine tr_cond rfl (fun hc => ?_) (fun hc => ?_)
    rotate_left
    · exact absurd (show true = false from hc) Bool.noConfusion
    repeat' first | refine zzs ?_ | refine zzr hnt rfl ?_ ?_ | refine zzd hnt rfl ?_ ?_ | refine zzb ?_ | refine zzk ?_
    · exact zzt
    exact tr_ret ⟨.inr rfl, _, _, rfl, zzp, rfl⟩
  repeat' first | refine zzs ?_ | refine zzb ?_ | refine zzk ?_
  refine tr_cond rfl (fun hc => ?_) (fun hc => ?_)
  · exact absurd (of_decide_eq_true hc) o20
  have hB : (bif decide (v.k = 0) then true else (bif (bif decide (w.k = 0) then !decide (op = 3) else false) then !decide (op = 18) else false)) = decide (v.k = 0 ∨ (w.k = 0 ∧ op ≠ 3 ∧ op ≠ 18)) := by
    by_cases k1 : v.k = 0 <;> by_cases k2 : w.k = 0 <;> by_cases k3 : op = 3 <;> by_cases k4 : op = 18 <;> simp [k1, k2, k3, k4]
  have n1 : ¬ (v.k ≠ 0 ∧ v.k ≠ ak) ∨ ak = 0 := by unfold clash at nv; omega
  have n2 : ¬ (w.k ≠ 0 ∧ w.k ≠ ak) ∨ ak = 0 := by unfold clash at nw; omega
  repeat' first | refine zzs ?_ | refine zzb ?_ | refine zzk ?_
  first | refine zzr hnt rfl ?_ ?_ | refine zzd hnt rfl ?_ ?_
  · exact zzt
  repeat' first | refine zzs ?_ | refine zzb ?_ | refine zzk ?_
  refine tr_cond rfl (fun hc => ?_) (fun hc => ?_)
  · have hc := of_decide_eq_true (hB.symm.trans hc)
    have hF : dF op v w = (val0, 0) := by
      unfold dF
      by_cases h1 : op = 3 ∨ op = 18
      · rw [if_pos (by omega)]
        unfold oneF
        rw [if_neg o17, if_pos (by omega)]
      · have ho2 : op2 op := by
          rcases ho with h | h
          · have := h.1; unfold op1 at this; omega
          · exact h
        unfold op2 at ho2
        rw [if_neg (by omega)]
        unfold tw2F
        rw [if_neg o1, if_neg o20]
        by_cases o19 : op = 19
        · subst o19
          have e : ak = 4 := hak.symm
          subst e
          rw [if_pos rfl]
          unfold jnF
          rw [if_neg (adF_t (by omega) (by omega)), if_pos (by omega)]
        · rw [if_neg o19]
          by_cases o5 : 5 ≤ op ∧ op ≤ 8
          · have e : ak = 2 := by rw [← hak]; rcases (by omega : op = 5 ∨ op = 6 ∨ op = 7 ∨ op = 8) with rfl | rfl | rfl | rfl <;> rfl
            subst e
            rw [if_pos o5]
            unfold rkF
            rw [if_neg (adF_t (by omega) (by omega)), if_pos (by omega)]
          · rw [if_neg o5]
            unfold cpF
            rw [if_pos (by omega)]
    rw [hF]
    repeat' first | refine zzs ?_ | refine zzr hnt rfl ?_ ?_ | refine zzd hnt rfl ?_ ?_ | refine zzb ?_ | refine zzk ?_
    · exact zzt
    exact tr_ret ⟨.inr rfl, _, _, rfl, zzp, rfl⟩
  have hn := of_decide_eq_false (hB.symm.trans hc)
  repeat' first | refine zzs ?_ | refine zzr hnt rfl ?_ ?_ | refine zzd hnt rfl ?_ ?_ | refine zzb ?_ | refine zzk ?_
  · exact zzt
  · exact zzt
  by_cases o3 : op = 3
  · subst o3
    have e : ak = 2 := hak.symm
    subst e
    have hF : dF 3 v w = rkN 6 0 v.i := by
      show (if v.k = 0 then (val0, (0 : Int)) else if v.k ≠ 2 then (val0, 2) else if v.i = -9223372036854775808 then (val0, 6) else (nV (-v.i), 0)) = (if fitI (0 - v.i) then (nV (0 - v.i), 0) else (val0, 6))
      rw [if_neg (by omega), if_neg (by omega)]
      have := hv.2
      by_cases hm : v.i = -9223372036854775808
      · rw [if_pos hm, if_neg (by unfold fitI; omega)]
      · rw [if_neg hm, if_pos (by unfold fitI at *; omega), Int.zero_sub]
    rw [hF]
    have g := reckoned_fn 6 0 v.i (by decide) (by decide) (by decide) hv.2
    generalize rkN 6 0 v.i = A at *
    repeat' first | refine zzs ?_ | refine zzb ?_ | refine zzk ?_
    refine tr_cond rfl (fun hc => ?_) (fun hc => ?_)
    rotate_left
    · exact absurd (show true = false from hc) Bool.noConfusion
    repeat' first | refine zzs ?_ | refine zzb ?_ | refine zzk ?_
    refine tr_region (zzx hnt rfl ?_ (call rfl rfl rfl rfl rfl rfl rfl hnt (g) (zzx hnt rfl ?_ (Lex.nil _)))) ?_
    · exact zzt
    · exact zzt
    exact tr_ret ⟨.inr rfl, _, _, rfl, zzp, rfl⟩
  repeat' first | refine zzs ?_ | refine zzb ?_ | refine zzk ?_
  refine tr_cond rfl (fun hc => ?_) (fun hc => ?_)
  · exact absurd (of_decide_eq_true hc) o3
  repeat' first | refine zzs ?_ | refine zzb ?_ | refine zzk ?_
  first | refine zzr hnt rfl ?_ ?_ | refine zzd hnt rfl ?_ ?_
  · exact zzt
  by_cases o18 : op = 18
  · subst o18
    have e : ak = 4 := hak.symm
    subst e
    have hF : dF 18 v w = (nV (rcF v.t), 0) := by
      show (if v.k = 0 then (val0, (0 : Int)) else if v.k ≠ 4 then (val0, 2) else (nV (rcF v.t), 0)) = _
      rw [if_neg (by omega), if_neg (by omega)]
    rw [hF]
    have g := runeCount_fn v.t (by have := (chk_cases hv.1).2.2.1; omega)
    repeat' first | refine zzs ?_ | refine zzb ?_ | refine zzk ?_
    refine tr_cond rfl (fun hc => ?_) (fun hc => ?_)
    rotate_left
    · exact absurd (show true = false from hc) Bool.noConfusion
    repeat' first | refine zzs ?_ | refine zzb ?_ | refine zzk ?_
    refine tr_region (zzx hnt rfl ?_ (call rfl rfl rfl rfl rfl rfl rfl hnt (g) (zzx hnt rfl ?_ (call rfl rfl rfl rfl rfl rfl rfl hnt (intOf_fn _) (zzx hnt rfl ?_ (Lex.nil _)))))) ?_
    · exact zzt
    · exact zzt
    · exact zzt
    exact tr_ret ⟨.inr rfl, _, _, rfl, zzp, rfl⟩
  repeat' first | refine zzs ?_ | refine zzb ?_ | refine zzk ?_
  refine tr_cond rfl (fun hc => ?_) (fun hc => ?_)
  · exact absurd (of_decide_eq_true hc) o18
  repeat' first | refine zzs ?_ | refine zzb ?_ | refine zzk ?_
  first | refine zzr hnt rfl ?_ ?_ | refine zzd hnt rfl ?_ ?_
  · exact zzt
  have ho2 : op2 op := by
    rcases ho with h | h
    · have := h.1; unfold op1 at this; omega
    · exact h
  unfold op2 at ho2
  have hF0 : dF op v w = tw2F op v w := if_neg (by omega)
  rw [hF0]
  by_cases o19 : op = 19
  · subst o19
    have e : ak = 4 := hak.symm
    subst e
    have lv := (chk_cases hv.1).2.2.1
    have lw := (chk_cases hw.1).2.2.1
    have sv : (strB v.t).size = v.t.length := strB_size _
    have sw : (strB w.t).size = w.t.length := strB_size _
    have svw : (strB (v.t ++ w.t)).size = v.t.length + w.t.length := by rw [strB_size, List.length_append]
    have hF : tw2F 19 v w = if 40 < (v.t ++ w.t).length then (val0, 1) else (tV (v.t ++ w.t), 0) := by
      show jnF v w = _
      unfold jnF
      rw [if_neg (adF_t (by omega) (by omega)), if_neg (by omega)]
    rw [hF]
    repeat' first | refine zzs ?_ | refine zzb ?_ | refine zzk ?_
    refine tr_cond rfl (fun hc => ?_) (fun hc => ?_)
    rotate_left
    · exact absurd (show true = false from hc) Bool.noConfusion
    repeat' first | refine zzs ?_ | refine zzb ?_ | refine zzk ?_
    first | refine zzr hnt rfl ?_ ?_ | refine zzd hnt rfl ?_ ?_
    · (dsimp only [AllP]; (repeat' first | exact trivial | assumption | exact Nat.le_of_ble_eq_true rfl | apply And.intro | exact eCells_len1 _ _ ‹_› | exact eCells_isByte _ _ ‹_› | (intro hh_; have hg_ := hh_; (try simp only [condT_ff, condF_tt, notE_t, notE_f, Bool.and_eq_true, ne_eq, decide_eq_true_eq, decide_eq_false_iff_not] at hg_)) | intro _ | exact rfl | omega))
      rw [eVal3, eVal3, sv, sw]
      simp only [maxLen]
      omega
    rw [eVal3, eVal3, strB_app2]
    repeat' first | refine zzs ?_ | refine zzb ?_ | refine zzk ?_
    first | refine zzr hnt rfl ?_ ?_ | refine zzd hnt rfl ?_ ?_
    · exact zzt
    rw [svw, List.length_append]
    repeat' first | refine zzs ?_ | refine zzb ?_ | refine zzk ?_
    refine tr_cond rfl (fun hc => ?_) (fun hc => ?_)
    · simp only [zz1, zz2, zz3, zz4, zz5, zz6, zz7, zz8] at hc
      rw [if_pos (by omega)]
      repeat' first | refine zzs ?_ | refine zzr hnt rfl ?_ ?_ | refine zzd hnt rfl ?_ ?_ | refine zzb ?_ | refine zzk ?_
      · exact zzt
      exact tr_ret ⟨.inr rfl, _, _, rfl, zzp, rfl⟩
    simp only [zz1, zz2, zz3, zz4, zz5, zz6, zz7, zz8] at hc
    rw [if_neg (by omega)]
    repeat' first | refine zzs ?_ | refine zzr hnt rfl ?_ ?_ | refine zzd hnt rfl ?_ ?_ | refine zzb ?_ | refine zzk ?_
    · exact zzt
    exact tr_ret ⟨.inr rfl, _, _, rfl, zzp, rfl⟩
  repeat' first | refine zzs ?_ | refine zzb ?_ | refine zzk ?_
  refine tr_cond rfl (fun hc => ?_) (fun hc => ?_)
  · exact absurd (of_decide_eq_true hc) o19
  by_cases o5 : 5 ≤ op ∧ op ≤ 8
  · have e : ak = 2 := by rw [← hak]; rcases (by omega : op = 5 ∨ op = 6 ∨ op = 7 ∨ op = 8) with rfl | rfl | rfl | rfl <;> rfl
    subst e
    have hF : tw2F op v w = rkN op v.i w.i := by
      unfold tw2F
      rw [if_neg o1, if_neg o20, if_neg o19, if_pos o5]
      unfold rkF
      rw [if_neg (adF_t (by omega) (by omega)), if_neg (by omega)]
    rw [hF]
    have g := reckoned_fn op v.i w.i o5.1 o5.2 hv.2 hw.2
    generalize rkN op v.i w.i = A at *
    rcases (by omega : op = 5 ∨ op = 6 ∨ op = 7 ∨ op = 8) with rfl | rfl | rfl | rfl
    · repeat' first | refine zzs ?_ | refine zzb ?_ | refine zzk ?_
      first | refine zzr hnt rfl ?_ ?_ | refine zzd hnt rfl ?_ ?_
      · exact zzt
      repeat' first | refine zzs ?_ | refine zzb ?_ | refine zzk ?_
      refine tr_cond rfl (fun hc => ?_) (fun hc => ?_)
      rotate_left
      · exact absurd (show true = false from hc) Bool.noConfusion
      repeat' first | refine zzs ?_ | refine zzb ?_ | refine zzk ?_
      repeat' first | refine zzs ?_ | refine zzb ?_ | refine zzk ?_
      refine tr_cond rfl (fun hc => ?_) (fun hc => ?_)
      rotate_left
      · exact absurd (show true = false from hc) Bool.noConfusion
      repeat' first | refine zzs ?_ | refine zzb ?_ | refine zzk ?_
      refine tr_region (zzx hnt rfl ?_ (call rfl rfl rfl rfl rfl rfl rfl hnt (g) (zzx hnt rfl ?_ (Lex.nil _)))) ?_
      · exact zzt
      · exact zzt
      exact tr_ret ⟨.inr rfl, _, _, rfl, zzp, rfl⟩
    · repeat' first | refine zzs ?_ | refine zzb ?_ | refine zzk ?_
      first | refine zzr hnt rfl ?_ ?_ | refine zzd hnt rfl ?_ ?_
      · exact zzt
      repeat' first | refine zzs ?_ | refine zzb ?_ | refine zzk ?_
      refine tr_cond rfl (fun hc => ?_) (fun hc => ?_)
      · exact absurd (show false = true from hc) Bool.noConfusion
      repeat' first | refine zzs ?_ | refine zzb ?_ | refine zzk ?_
      first | refine zzr hnt rfl ?_ ?_ | refine zzd hnt rfl ?_ ?_
      · exact zzt
      repeat' first | refine zzs ?_ | refine zzb ?_ | refine zzk ?_
      refine tr_cond rfl (fun hc => ?_) (fun hc => ?_)
      rotate_left
      · exact absurd (show true = false from hc) Bool.noConfusion
      repeat' first | refine zzs ?_ | refine zzb ?_ | refine zzk ?_
      repeat' first | refine zzs ?_ | refine zzb ?_ | refine zzk ?_
      refine tr_cond rfl (fun hc => ?_) (fun hc => ?_)
      rotate_left
      · exact absurd (show true = false from hc) Bool.noConfusion
      repeat' first | refine zzs ?_ | refine zzb ?_ | refine zzk ?_
      refine tr_region (zzx hnt rfl ?_ (call rfl rfl rfl rfl rfl rfl rfl hnt (g) (zzx hnt rfl ?_ (Lex.nil _)))) ?_
      · exact zzt
      · exact zzt
      exact tr_ret ⟨.inr rfl, _, _, rfl, zzp, rfl⟩
    · repeat' first | refine zzs ?_ | refine zzb ?_ | refine zzk ?_
      first | refine zzr hnt rfl ?_ ?_ | refine zzd hnt rfl ?_ ?_
      · exact zzt
      repeat' first | refine zzs ?_ | refine zzb ?_ | refine zzk ?_
      refine tr_cond rfl (fun hc => ?_) (fun hc => ?_)
      · exact absurd (show false = true from hc) Bool.noConfusion
      repeat' first | refine zzs ?_ | refine zzb ?_ | refine zzk ?_
      first | refine zzr hnt rfl ?_ ?_ | refine zzd hnt rfl ?_ ?_
      · exact zzt
      repeat' first | refine zzs ?_ | refine zzb ?_ | refine zzk ?_
      refine tr_cond rfl (fun hc => ?_) (fun hc => ?_)
      · exact absurd (show false = true from hc) Bool.noConfusion
      repeat' first | refine zzs ?_ | refine zzb ?_ | refine zzk ?_
      first | refine zzr hnt rfl ?_ ?_ | refine zzd hnt rfl ?_ ?_
      · exact zzt
      repeat' first | refine zzs ?_ | refine zzb ?_ | refine zzk ?_
      refine tr_cond rfl (fun hc => ?_) (fun hc => ?_)
      rotate_left
      · exact absurd (show true = false from hc) Bool.noConfusion
      repeat' first | refine zzs ?_ | refine zzb ?_ | refine zzk ?_
      repeat' first | refine zzs ?_ | refine zzb ?_ | refine zzk ?_
      refine tr_cond rfl (fun hc => ?_) (fun hc => ?_)
      rotate_left
      · exact absurd (show true = false from hc) Bool.noConfusion
      repeat' first | refine zzs ?_ | refine zzb ?_ | refine zzk ?_
      refine tr_region (zzx hnt rfl ?_ (call rfl rfl rfl rfl rfl rfl rfl hnt (g) (zzx hnt rfl ?_ (Lex.nil _)))) ?_
      · exact zzt
      · exact zzt
      exact tr_ret ⟨.inr rfl, _, _, rfl, zzp, rfl⟩
    · repeat' first | refine zzs ?_ | refine zzb ?_ | refine zzk ?_
      first | refine zzr hnt rfl ?_ ?_ | refine zzd hnt rfl ?_ ?_
      · exact zzt
      repeat' first | refine zzs ?_ | refine zzb ?_ | refine zzk ?_
      refine tr_cond rfl (fun hc => ?_) (fun hc => ?_)
      · exact absurd (show false = true from hc) Bool.noConfusion
      repeat' first | refine zzs ?_ | refine zzb ?_ | refine zzk ?_
      first | refine zzr hnt rfl ?_ ?_ | refine zzd hnt rfl ?_ ?_
      · exact zzt
      repeat' first | refine zzs ?_ | refine zzb ?_ | refine zzk ?_
      refine tr_cond rfl (fun hc => ?_) (fun hc => ?_)
      · exact absurd (show false = true from hc) Bool.noConfusion
      repeat' first | refine zzs ?_ | refine zzb ?_ | refine zzk ?_
      first | refine zzr hnt rfl ?_ ?_ | refine zzd hnt rfl ?_ ?_
      · exact zzt
      repeat' first | refine zzs ?_ | refine zzb ?_ | refine zzk ?_
      refine tr_cond rfl (fun hc => ?_) (fun hc => ?_)
      · exact absurd (show false = true from hc) Bool.noConfusion
      repeat' first | refine zzs ?_ | refine zzb ?_ | refine zzk ?_
      first | refine zzr hnt rfl ?_ ?_ | refine zzd hnt rfl ?_ ?_
      · exact zzt
      repeat' first | refine zzs ?_ | refine zzb ?_ | refine zzk ?_
      refine tr_cond rfl (fun hc => ?_) (fun hc => ?_)
      rotate_left
      · exact absurd (show true = false from hc) Bool.noConfusion
      repeat' first | refine zzs ?_ | refine zzb ?_ | refine zzk ?_
      refine tr_region (zzx hnt rfl ?_ (call rfl rfl rfl rfl rfl rfl rfl hnt (g) (zzx hnt rfl ?_ (Lex.nil _)))) ?_
      · exact zzt
      · exact zzt
      exact tr_ret ⟨.inr rfl, _, _, rfl, zzp, rfl⟩
  have hF : tw2F op v w = if v.k ≠ w.k then (val0, 2) else (bV (cmB op (ordV v w)), 0) := by
    unfold tw2F
    rw [if_neg o1, if_neg o20, if_neg o19, if_neg o5]
    unfold cpF
    rw [if_neg (by omega)]
  rw [hF]
  repeat' first | refine zzs ?_ | refine zzb ?_ | refine zzk ?_
  first | refine zzr hnt rfl ?_ ?_ | refine zzd hnt rfl ?_ ?_
  · exact zzt
  repeat' first | refine zzs ?_ | refine zzb ?_ | refine zzk ?_
  refine tr_cond rfl (fun hc => ?_) (fun hc => ?_)
  · exact absurd (of_decide_eq_true hc) (by omega)
  repeat' first | refine zzs ?_ | refine zzb ?_ | refine zzk ?_
  first | refine zzr hnt rfl ?_ ?_ | refine zzd hnt rfl ?_ ?_
  · exact zzt
  repeat' first | refine zzs ?_ | refine zzb ?_ | refine zzk ?_
  refine tr_cond rfl (fun hc => ?_) (fun hc => ?_)
  · exact absurd (of_decide_eq_true hc) (by omega)
  repeat' first | refine zzs ?_ | refine zzb ?_ | refine zzk ?_
  first | refine zzr hnt rfl ?_ ?_ | refine zzd hnt rfl ?_ ?_
  · exact zzt
  repeat' first | refine zzs ?_ | refine zzb ?_ | refine zzk ?_
  refine tr_cond rfl (fun hc => ?_) (fun hc => ?_)
  · exact absurd (of_decide_eq_true hc) (by omega)
  repeat' first | refine zzs ?_ | refine zzb ?_ | refine zzk ?_
  first | refine zzr hnt rfl ?_ ?_ | refine zzd hnt rfl ?_ ?_
  · exact zzt
  repeat' first | refine zzs ?_ | refine zzb ?_ | refine zzk ?_
  refine tr_cond rfl (fun hc => ?_) (fun hc => ?_)
  · exact absurd (of_decide_eq_true hc) (by omega)
  repeat' first | refine zzs ?_ | refine zzb ?_ | refine zzk ?_
  first | refine zzr hnt rfl ?_ ?_ | refine zzd hnt rfl ?_ ?_
  · exact zzt
  repeat' first | refine zzs ?_ | refine zzb ?_ | refine zzk ?_
  refine tr_cond rfl (fun hc => ?_) (fun hc => ?_)
  · simp only [zz1, zz2, zz3, zz4, zz5, zz6, zz7, zz8] at hc
    (try simp only [eVal0] at hc)
    (try simp only [zz1, zz2, zz3, zz4, zz5, zz6, zz7, zz8] at hc)
    rw [if_pos hc]
    repeat' first | refine zzs ?_ | refine zzr hnt rfl ?_ ?_ | refine zzd hnt rfl ?_ ?_ | refine zzb ?_ | refine zzk ?_
    · exact zzt
    exact tr_ret ⟨.inr rfl, _, _, rfl, zzp, rfl⟩
  simp only [zz1, zz2, zz3, zz4, zz5, zz6, zz7, zz8] at hc
  (try simp only [eVal0] at hc)
  (try simp only [zz1, zz2, zz3, zz4, zz5, zz6, zz7, zz8] at hc)
  rw [if_neg (c := v.k ≠ w.k) (not_not_intro hc)]
  have lv := (chk_cases hv.1).2.2.1
  have lw := (chk_cases hw.1).2.2.1
  have kv := (chk_cases hv.1)
  have kw := (chk_cases hw.1)
  have g := Order_fn v w hv.1 hw.1 ⟨⟨by omega, by omega⟩, hv.2⟩ ⟨⟨by omega, by omega⟩, hw.2⟩ (by simp only [maxLen]; omega) (by simp only [maxLen]; omega)
  have hor := ordV_or v w
  generalize ordV v w = c at *
  repeat' first | refine zzs ?_ | refine zzb ?_ | refine zzk ?_
  refine tr_region (zzx hnt rfl ?_ (call rfl rfl rfl rfl rfl rfl rfl hnt (g) (zzx hnt rfl ?_ (Lex.nil _)))) ?_
  · exact zzt
  · exact zzt
  repeat' first | refine zzs ?_ | refine zzb ?_ | refine zzk ?_
  first | refine zzr hnt rfl ?_ ?_ | refine zzd hnt rfl ?_ ?_
  · exact zzt
  rcases (by omega : op = 9 ∨ op = 10 ∨ op = 11 ∨ op = 12 ∨ op = 13 ∨ op = 14) with rfl | rfl | rfl | rfl | rfl | rfl
  · rcases hor with rfl | rfl | rfl
    · have hF : cmB 9 (-1) = false := rfl
      rw [hF]
      repeat' first | refine zzs ?_ | refine zzb ?_ | refine zzk ?_
      first | refine zzr hnt rfl ?_ ?_ | refine zzd hnt rfl ?_ ?_
      · exact zzt
      repeat' first | refine zzs ?_ | refine zzb ?_ | refine zzk ?_
      refine tr_cond rfl (fun hc => ?_) (fun hc => ?_)
      · exact absurd hc (by decide)
      repeat' first | refine zzs ?_ | refine zzb ?_ | refine zzk ?_
      refine tr_region (zzx hnt rfl ?_ (call rfl rfl rfl rfl rfl rfl rfl hnt (boolOf_fn _) (zzx hnt rfl ?_ (Lex.nil _)))) ?_
      · exact zzt
      · exact zzt
      exact tr_ret ⟨.inr rfl, _, _, rfl, zzp, rfl⟩
    · have hF : cmB 9 (0) = true := rfl
      rw [hF]
      repeat' first | refine zzs ?_ | refine zzb ?_ | refine zzk ?_
      first | refine zzr hnt rfl ?_ ?_ | refine zzd hnt rfl ?_ ?_
      · exact zzt
      repeat' first | refine zzs ?_ | refine zzb ?_ | refine zzk ?_
      refine tr_cond rfl (fun hc => ?_) (fun hc => ?_)
      rotate_left
      · exact absurd hc (by decide)
      repeat' first | refine zzs ?_ | refine zzb ?_ | refine zzk ?_
      refine tr_region (zzx hnt rfl ?_ (call rfl rfl rfl rfl rfl rfl rfl hnt (boolOf_fn _) (zzx hnt rfl ?_ (Lex.nil _)))) ?_
      · exact zzt
      · exact zzt
      exact tr_ret ⟨.inr rfl, _, _, rfl, zzp, rfl⟩
    · have hF : cmB 9 (1) = false := rfl
      rw [hF]
      repeat' first | refine zzs ?_ | refine zzb ?_ | refine zzk ?_
      first | refine zzr hnt rfl ?_ ?_ | refine zzd hnt rfl ?_ ?_
      · exact zzt
      repeat' first | refine zzs ?_ | refine zzb ?_ | refine zzk ?_
      refine tr_cond rfl (fun hc => ?_) (fun hc => ?_)
      · exact absurd hc (by decide)
      repeat' first | refine zzs ?_ | refine zzb ?_ | refine zzk ?_
      refine tr_region (zzx hnt rfl ?_ (call rfl rfl rfl rfl rfl rfl rfl hnt (boolOf_fn _) (zzx hnt rfl ?_ (Lex.nil _)))) ?_
      · exact zzt
      · exact zzt
      exact tr_ret ⟨.inr rfl, _, _, rfl, zzp, rfl⟩
  · rcases hor with rfl | rfl | rfl
    · have hF : cmB 10 (-1) = true := rfl
      rw [hF]
      repeat' first | refine zzs ?_ | refine zzb ?_ | refine zzk ?_
      first | refine zzr hnt rfl ?_ ?_ | refine zzd hnt rfl ?_ ?_
      · exact zzt
      repeat' first | refine zzs ?_ | refine zzb ?_ | refine zzk ?_
      refine tr_cond rfl (fun hc => ?_) (fun hc => ?_)
      rotate_left
      · exact absurd hc (by decide)
      repeat' first | refine zzs ?_ | refine zzb ?_ | refine zzk ?_
      refine tr_region (zzx hnt rfl ?_ (call rfl rfl rfl rfl rfl rfl rfl hnt (boolOf_fn _) (zzx hnt rfl ?_ (Lex.nil _)))) ?_
      · exact zzt
      · exact zzt
      exact tr_ret ⟨.inr rfl, _, _, rfl, zzp, rfl⟩
    · have hF : cmB 10 (0) = false := rfl
      rw [hF]
      repeat' first | refine zzs ?_ | refine zzb ?_ | refine zzk ?_
      first | refine zzr hnt rfl ?_ ?_ | refine zzd hnt rfl ?_ ?_
      · exact zzt
      repeat' first | refine zzs ?_ | refine zzb ?_ | refine zzk ?_
      refine tr_cond rfl (fun hc => ?_) (fun hc => ?_)
      · exact absurd hc (by decide)
      repeat' first | refine zzs ?_ | refine zzb ?_ | refine zzk ?_
      refine tr_region (zzx hnt rfl ?_ (call rfl rfl rfl rfl rfl rfl rfl hnt (boolOf_fn _) (zzx hnt rfl ?_ (Lex.nil _)))) ?_
      · exact zzt
      · exact zzt
      exact tr_ret ⟨.inr rfl, _, _, rfl, zzp, rfl⟩
    · have hF : cmB 10 (1) = true := rfl
      rw [hF]
      repeat' first | refine zzs ?_ | refine zzb ?_ | refine zzk ?_
      first | refine zzr hnt rfl ?_ ?_ | refine zzd hnt rfl ?_ ?_
      · exact zzt
      repeat' first | refine zzs ?_ | refine zzb ?_ | refine zzk ?_
      refine tr_cond rfl (fun hc => ?_) (fun hc => ?_)
      rotate_left
      · exact absurd hc (by decide)
      repeat' first | refine zzs ?_ | refine zzb ?_ | refine zzk ?_
      refine tr_region (zzx hnt rfl ?_ (call rfl rfl rfl rfl rfl rfl rfl hnt (boolOf_fn _) (zzx hnt rfl ?_ (Lex.nil _)))) ?_
      · exact zzt
      · exact zzt
      exact tr_ret ⟨.inr rfl, _, _, rfl, zzp, rfl⟩
  · rcases hor with rfl | rfl | rfl
    · have hF : cmB 11 (-1) = true := rfl
      rw [hF]
      repeat' first | refine zzs ?_ | refine zzb ?_ | refine zzk ?_
      first | refine zzr hnt rfl ?_ ?_ | refine zzd hnt rfl ?_ ?_
      · exact zzt
      repeat' first | refine zzs ?_ | refine zzb ?_ | refine zzk ?_
      refine tr_cond rfl (fun hc => ?_) (fun hc => ?_)
      rotate_left
      · exact absurd hc (by decide)
      repeat' first | refine zzs ?_ | refine zzb ?_ | refine zzk ?_
      refine tr_region (zzx hnt rfl ?_ (call rfl rfl rfl rfl rfl rfl rfl hnt (boolOf_fn _) (zzx hnt rfl ?_ (Lex.nil _)))) ?_
      · exact zzt
      · exact zzt
      exact tr_ret ⟨.inr rfl, _, _, rfl, zzp, rfl⟩
    · have hF : cmB 11 (0) = false := rfl
      rw [hF]
      repeat' first | refine zzs ?_ | refine zzb ?_ | refine zzk ?_
      first | refine zzr hnt rfl ?_ ?_ | refine zzd hnt rfl ?_ ?_
      · exact zzt
      repeat' first | refine zzs ?_ | refine zzb ?_ | refine zzk ?_
      refine tr_cond rfl (fun hc => ?_) (fun hc => ?_)
      · exact absurd hc (by decide)
      repeat' first | refine zzs ?_ | refine zzb ?_ | refine zzk ?_
      refine tr_region (zzx hnt rfl ?_ (call rfl rfl rfl rfl rfl rfl rfl hnt (boolOf_fn _) (zzx hnt rfl ?_ (Lex.nil _)))) ?_
      · exact zzt
      · exact zzt
      exact tr_ret ⟨.inr rfl, _, _, rfl, zzp, rfl⟩
    · have hF : cmB 11 (1) = false := rfl
      rw [hF]
      repeat' first | refine zzs ?_ | refine zzb ?_ | refine zzk ?_
      first | refine zzr hnt rfl ?_ ?_ | refine zzd hnt rfl ?_ ?_
      · exact zzt
      repeat' first | refine zzs ?_ | refine zzb ?_ | refine zzk ?_
      refine tr_cond rfl (fun hc => ?_) (fun hc => ?_)
      · exact absurd hc (by decide)
      repeat' first | refine zzs ?_ | refine zzb ?_ | refine zzk ?_
      refine tr_region (zzx hnt rfl ?_ (call rfl rfl rfl rfl rfl rfl rfl hnt (boolOf_fn _) (zzx hnt rfl ?_ (Lex.nil _)))) ?_
      · exact zzt
      · exact zzt
      exact tr_ret ⟨.inr rfl, _, _, rfl, zzp, rfl⟩
  · rcases hor with rfl | rfl | rfl
    · have hF : cmB 12 (-1) = true := rfl
      rw [hF]
      repeat' first | refine zzs ?_ | refine zzb ?_ | refine zzk ?_
      first | refine zzr hnt rfl ?_ ?_ | refine zzd hnt rfl ?_ ?_
      · exact zzt
      repeat' first | refine zzs ?_ | refine zzb ?_ | refine zzk ?_
      refine tr_cond rfl (fun hc => ?_) (fun hc => ?_)
      rotate_left
      · exact absurd hc (by decide)
      repeat' first | refine zzs ?_ | refine zzb ?_ | refine zzk ?_
      refine tr_region (zzx hnt rfl ?_ (call rfl rfl rfl rfl rfl rfl rfl hnt (boolOf_fn _) (zzx hnt rfl ?_ (Lex.nil _)))) ?_
      · exact zzt
      · exact zzt
      exact tr_ret ⟨.inr rfl, _, _, rfl, zzp, rfl⟩
    · have hF : cmB 12 (0) = true := rfl
      rw [hF]
      repeat' first | refine zzs ?_ | refine zzb ?_ | refine zzk ?_
      first | refine zzr hnt rfl ?_ ?_ | refine zzd hnt rfl ?_ ?_
      · exact zzt
      repeat' first | refine zzs ?_ | refine zzb ?_ | refine zzk ?_
      refine tr_cond rfl (fun hc => ?_) (fun hc => ?_)
      rotate_left
      · exact absurd hc (by decide)
      repeat' first | refine zzs ?_ | refine zzb ?_ | refine zzk ?_
      refine tr_region (zzx hnt rfl ?_ (call rfl rfl rfl rfl rfl rfl rfl hnt (boolOf_fn _) (zzx hnt rfl ?_ (Lex.nil _)))) ?_
      · exact zzt
      · exact zzt
      exact tr_ret ⟨.inr rfl, _, _, rfl, zzp, rfl⟩
    · have hF : cmB 12 (1) = false := rfl
      rw [hF]
      repeat' first | refine zzs ?_ | refine zzb ?_ | refine zzk ?_
      first | refine zzr hnt rfl ?_ ?_ | refine zzd hnt rfl ?_ ?_
      · exact zzt
      repeat' first | refine zzs ?_ | refine zzb ?_ | refine zzk ?_
      refine tr_cond rfl (fun hc => ?_) (fun hc => ?_)
      · exact absurd hc (by decide)
      repeat' first | refine zzs ?_ | refine zzb ?_ | refine zzk ?_
      refine tr_region (zzx hnt rfl ?_ (call rfl rfl rfl rfl rfl rfl rfl hnt (boolOf_fn _) (zzx hnt rfl ?_ (Lex.nil _)))) ?_
      · exact zzt
      · exact zzt
      exact tr_ret ⟨.inr rfl, _, _, rfl, zzp, rfl⟩
  · rcases hor with rfl | rfl | rfl
    · have hF : cmB 13 (-1) = false := rfl
      rw [hF]
      repeat' first | refine zzs ?_ | refine zzb ?_ | refine zzk ?_
      first | refine zzr hnt rfl ?_ ?_ | refine zzd hnt rfl ?_ ?_
      · exact zzt
      repeat' first | refine zzs ?_ | refine zzb ?_ | refine zzk ?_
      refine tr_cond rfl (fun hc => ?_) (fun hc => ?_)
      · exact absurd hc (by decide)
      repeat' first | refine zzs ?_ | refine zzb ?_ | refine zzk ?_
      refine tr_region (zzx hnt rfl ?_ (call rfl rfl rfl rfl rfl rfl rfl hnt (boolOf_fn _) (zzx hnt rfl ?_ (Lex.nil _)))) ?_
      · exact zzt
      · exact zzt
      exact tr_ret ⟨.inr rfl, _, _, rfl, zzp, rfl⟩
    · have hF : cmB 13 (0) = false := rfl
      rw [hF]
      repeat' first | refine zzs ?_ | refine zzb ?_ | refine zzk ?_
      first | refine zzr hnt rfl ?_ ?_ | refine zzd hnt rfl ?_ ?_
      · exact zzt
      repeat' first | refine zzs ?_ | refine zzb ?_ | refine zzk ?_
      refine tr_cond rfl (fun hc => ?_) (fun hc => ?_)
      · exact absurd hc (by decide)
      repeat' first | refine zzs ?_ | refine zzb ?_ | refine zzk ?_
      refine tr_region (zzx hnt rfl ?_ (call rfl rfl rfl rfl rfl rfl rfl hnt (boolOf_fn _) (zzx hnt rfl ?_ (Lex.nil _)))) ?_
      · exact zzt
      · exact zzt
      exact tr_ret ⟨.inr rfl, _, _, rfl, zzp, rfl⟩
    · have hF : cmB 13 (1) = true := rfl
      rw [hF]
      repeat' first | refine zzs ?_ | refine zzb ?_ | refine zzk ?_
      first | refine zzr hnt rfl ?_ ?_ | refine zzd hnt rfl ?_ ?_
      · exact zzt
      repeat' first | refine zzs ?_ | refine zzb ?_ | refine zzk ?_
      refine tr_cond rfl (fun hc => ?_) (fun hc => ?_)
      rotate_left
      · exact absurd hc (by decide)
      repeat' first | refine zzs ?_ | refine zzb ?_ | refine zzk ?_
      refine tr_region (zzx hnt rfl ?_ (call rfl rfl rfl rfl rfl rfl rfl hnt (boolOf_fn _) (zzx hnt rfl ?_ (Lex.nil _)))) ?_
      · exact zzt
      · exact zzt
      exact tr_ret ⟨.inr rfl, _, _, rfl, zzp, rfl⟩
  · rcases hor with rfl | rfl | rfl
    · have hF : cmB 14 (-1) = false := rfl
      rw [hF]
      repeat' first | refine zzs ?_ | refine zzb ?_ | refine zzk ?_
      first | refine zzr hnt rfl ?_ ?_ | refine zzd hnt rfl ?_ ?_
      · exact zzt
      repeat' first | refine zzs ?_ | refine zzb ?_ | refine zzk ?_
      refine tr_cond rfl (fun hc => ?_) (fun hc => ?_)
      · exact absurd hc (by decide)
      repeat' first | refine zzs ?_ | refine zzb ?_ | refine zzk ?_
      refine tr_region (zzx hnt rfl ?_ (call rfl rfl rfl rfl rfl rfl rfl hnt (boolOf_fn _) (zzx hnt rfl ?_ (Lex.nil _)))) ?_
      · exact zzt
      · exact zzt
      exact tr_ret ⟨.inr rfl, _, _, rfl, zzp, rfl⟩
    · have hF : cmB 14 (0) = true := rfl
      rw [hF]
      repeat' first | refine zzs ?_ | refine zzb ?_ | refine zzk ?_
      first | refine zzr hnt rfl ?_ ?_ | refine zzd hnt rfl ?_ ?_
      · exact zzt
      repeat' first | refine zzs ?_ | refine zzb ?_ | refine zzk ?_
      refine tr_cond rfl (fun hc => ?_) (fun hc => ?_)
      rotate_left
      · exact absurd hc (by decide)
      repeat' first | refine zzs ?_ | refine zzb ?_ | refine zzk ?_
      refine tr_region (zzx hnt rfl ?_ (call rfl rfl rfl rfl rfl rfl rfl hnt (boolOf_fn _) (zzx hnt rfl ?_ (Lex.nil _)))) ?_
      · exact zzt
      · exact zzt
      exact tr_ret ⟨.inr rfl, _, _, rfl, zzp, rfl⟩
    · have hF : cmB 14 (1) = true := rfl
      rw [hF]
      repeat' first | refine zzs ?_ | refine zzb ?_ | refine zzk ?_
      first | refine zzr hnt rfl ?_ ?_ | refine zzd hnt rfl ?_ ?_
      · exact zzt
      repeat' first | refine zzs ?_ | refine zzb ?_ | refine zzk ?_
      refine tr_cond rfl (fun hc => ?_) (fun hc => ?_)
      rotate_left
      · exact absurd hc (by decide)
      repeat' first | refine zzs ?_ | refine zzb ?_ | refine zzk ?_
      refine tr_region (zzx hnt rfl ?_ (call rfl rfl rfl rfl rfl rfl rfl hnt (boolOf_fn _) (zzx hnt rfl ?_ (Lex.nil _)))) ?_
      · exact zzt
      · exact zzt
      exact tr_ret ⟨.inr rfl, _, _, rfl, zzp, rfl⟩
end Go.Proofs.YthnadkafegmacaaGreatDoor
namespace Go.Proofs.YthnadkafegmacaaGreatDoor
open Go Go.RowKit Go.Proofs.YthnadkafegmacaaGreatDoor.Ab
set_option linter.unusedSimpArgs false
set_option linter.unusedVariables false

theorem fsF_app : ∀ (l : List Colm) (c : Colm) (s : Byt) (i : Nat), fsF (l ++ [c]) s i = if fsF l s i < 0 then (if c.n = s then ((i + l.length : Nat) : Int) else -1) else fsF l s i
  | [], c, s, i => by
    exact (if_pos (show (-1 : Int) < 0 by decide)).symm
  | a :: l, c, s, i => by
    rw [List.cons_append, fsF, fsF]
    by_cases h : a.n = s
    · rw [if_pos h, if_pos h, if_neg (by omega)]
    · rw [if_neg h, if_neg h, fsF_app l c s (i + 1), List.length_cons]
      rw [show i + 1 + l.length = i + (l.length + 1) by omega]
theorem fsF_has : ∀ (l : List Colm) (s : Byt) (i : Nat), hasN l s = false → fsF l s i = -1
  | [], _, _, _ => rfl
  | c :: r, s, i, h => by
    unfold hasN at h
    rw [List.any_cons, Bool.or_eq_false_iff] at h
    rw [fsF, if_neg (of_decide_eq_false h.1)]
    exact fsF_has r s (i + 1) h.2
theorem colAt_fs (l : List Colm) (s : Byt) (hu : uniq l) : ∀ n, n ≤ l.length → colAtN l s n = fsF (l.take n) s 0
  | 0, _ => rfl
  | n + 1, h => by
    have ih := colAt_fs l s hu n (by omega)
    rw [take_succ (d := col0) (by omega), fsF_app, colAtN, ← ih]
    have hl : (l.take n).length = n := by rw [List.length_take]; omega
    by_cases hc : (l.getD n col0).n = s
    · have hn := hu n (by omega)
      rw [hc] at hn
      rw [if_pos hc, ih, fsF_has _ _ _ hn, if_pos (by decide), if_pos hc, Nat.zero_add, hl]
    · rw [if_neg hc, if_neg hc]
      have := colAtN_rng l s n
      by_cases h0 : colAtN l s n < 0
      · rw [if_pos h0]; omega
      · rw [if_neg h0]
theorem colAt_eq {l : List Colm} (hu : uniq l) (s : Byt) : colAt l s = fsF l s 0 := by
  have h := colAt_fs l s hu l.length (Nat.le_refl _)
  rw [List.take_length] at h
  exact h
theorem eEx_leaf (op : Int) (v : Val) (n : Byt) : eEx (.mk op v n []) = [eI op, eI v.k, eI v.i, eQ v.b, eT v.t, eT n, .sl []] := by rw [eEx, eExs]
set_option maxRecDepth 10000 in
set_option maxHeartbeats 2000000 in
theorem valued_lit (v : Val) (n : Byt) (cols : List Colm) (row : List Val) : FnD Tryz.prog 44 [.agg (.es (eEx (.mk 1 v n []))), .one (.e (eCols cols)), .one (.e (eRow row))] (rVE (v, 0)) := by
  refine fn_intro (T := tab) tOk Tryz.func44 rfl (by kernel_rfl) (by simp [Tryz.ntmps44]) ?_
  intro X hX
  have hnt : X.nt = 115 := hX
  clear hX
  rw [eEx_leaf]
  repeat' first | refine zzs ?_ | refine zzr hnt rfl ?_ ?_ | refine zzd hnt rfl ?_ ?_ | refine zzb ?_ | refine zzk ?_
  · exact zzt
  · exact zzt
  · exact zzt
  repeat' first | refine zzs ?_ | refine zzb ?_ | refine zzk ?_
  refine tr_cond rfl (fun hc => ?_) (fun hc => ?_)
  rotate_left
  · exact absurd (show true = false from hc) Bool.noConfusion
  repeat' first | refine zzs ?_ | refine zzr hnt rfl ?_ ?_ | refine zzd hnt rfl ?_ ?_ | refine zzb ?_ | refine zzk ?_
  · exact zzt
  exact tr_ret ⟨.inr rfl, _, _, rfl, zzp, rfl⟩
set_option maxRecDepth 10000 in
set_option maxHeartbeats 2000000 in
theorem valued_col (v : Val) (n : Byt) (cols : List Colm) (row : List Val) (hr : colAt cols n < row.length) : FnD Tryz.prog 44 [.agg (.es (eEx (.mk 2 v n []))), .one (.e (eCols cols)), .one (.e (eRow row))] (rVE (if colAt cols n < 0 then (val0, 5) else (row.getD (colAt cols n).toNat val0, 0))) := by
  refine fn_intro (T := tab) tOk Tryz.func44 rfl (by kernel_rfl) (by simp [Tryz.ntmps44]) ?_
  intro X hX
  have hnt : X.nt = 115 := hX
  clear hX
  have h1 := columnAt_fn cols n
  have hl : (row.map eVal).length = row.length := List.length_map ..
  generalize colAt cols n = i at *
  rw [eEx_leaf]
  repeat' first | refine zzs ?_ | refine zzr hnt rfl ?_ ?_ | refine zzd hnt rfl ?_ ?_ | refine zzb ?_ | refine zzk ?_
  · exact zzt
  · exact zzt
  · exact zzt
  repeat' first | refine zzs ?_ | refine zzb ?_ | refine zzk ?_
  refine tr_cond rfl (fun hc => ?_) (fun hc => ?_)
  · exact absurd (show false = true from hc) Bool.noConfusion
  repeat' first | refine zzs ?_ | refine zzb ?_ | refine zzk ?_
  first | refine zzr hnt rfl ?_ ?_ | refine zzd hnt rfl ?_ ?_
  · exact zzt
  repeat' first | refine zzs ?_ | refine zzb ?_ | refine zzk ?_
  refine tr_cond rfl (fun hc => ?_) (fun hc => ?_)
  rotate_left
  · exact absurd (show true = false from hc) Bool.noConfusion
  repeat' first | refine zzs ?_ | refine zzb ?_ | refine zzk ?_
  refine tr_region (zzx hnt rfl ?_ (call rfl rfl rfl rfl rfl rfl rfl hnt (h1) (zzx hnt rfl ?_ (Lex.nil _)))) ?_
  · exact zzt
  · exact zzt
  repeat' first | refine zzs ?_ | refine zzr hnt rfl ?_ ?_ | refine zzd hnt rfl ?_ ?_ | refine zzb ?_ | refine zzk ?_
  · exact zzt
  repeat' first | refine zzs ?_ | refine zzb ?_ | refine zzk ?_
  refine tr_cond rfl (fun hc => ?_) (fun hc => ?_)
  · simp only [zz1, zz2, zz3, zz4, zz5, zz6, zz7, zz8] at hc
    rw [if_pos hc]
    repeat' first | refine zzs ?_ | refine zzr hnt rfl ?_ ?_ | refine zzd hnt rfl ?_ ?_ | refine zzb ?_ | refine zzk ?_
    · exact zzt
    exact tr_ret ⟨.inr rfl, _, _, rfl, zzp, rfl⟩
  simp only [zz1, zz2, zz3, zz4, zz5, zz6, zz7, zz8] at hc
  rw [if_neg hc]
  have hg := rowGet row i.toNat (by omega)
  repeat' first | refine zzs ?_ | refine zzb ?_ | refine zzk ?_
  first | refine zzr hnt rfl ?_ ?_ | refine zzd hnt rfl ?_ ?_
  · rw [hg]
    exact zza
  rw [hg]
  exact tr_ret ⟨.inr rfl, _, _, rfl, zzp, rfl⟩
set_option maxRecDepth 10000 in
set_option maxHeartbeats 2000000 in
theorem valued_one (op : Int) (v : Val) (n : Byt) (a : Ex) (cols : List Colm) (row : List Val) (x : Val × Int) (ho : op1 op) (ih : FnD Tryz.prog 44 [.agg (.es (eEx a)), .one (.e (eCols cols)), .one (.e (eRow row))] (rVE x)) (hx : x.2 = 0 → good x.1) : FnD Tryz.prog 44 [.agg (.es (eEx (.mk op v n [a]))), .one (.e (eCols cols)), .one (.e (eRow row))] (rVE (solF op x)) := by
  refine fn_intro (T := tab) tOk Tryz.func44 rfl (by kernel_rfl) (by simp [Tryz.ntmps44]) ?_
  intro X hX
  have hnt : X.nt = 115 := hX
  clear hX
  have h7 : 0 + 7 ≤ (Cs.es (eEx a)).len := by have := ex7 a; show 0 + 7 ≤ (eEx a).length; omega
  have g1 : (0 : Int) < ((1 : Nat) : Int) := by decide
  have k7 := ex7 a
  rw [eEx_one]
  rw [← exAll a] at ih
  have hF : solF op x = solF op x := rfl
  conv at hF => rhs; unfold solF
  generalize solF op x = Z at *
  obtain ⟨u, e⟩ := x
  dsimp only at hF hx
  have n1 : op ≠ 1 := by unfold op1 at ho; omega
  have n2 : op ≠ 2 := by unfold op1 at ho; omega
  repeat' first | refine zzs ?_ | refine zzr hnt rfl ?_ ?_ | refine zzd hnt rfl ?_ ?_ | refine zzb ?_ | refine zzk ?_
  · exact zzt
  · exact zzt
  · exact zzt
  repeat' first | refine zzs ?_ | refine zzb ?_ | refine zzk ?_
  refine tr_cond rfl (fun hc => ?_) (fun hc => ?_)
  · exact absurd (of_decide_eq_true hc) n1
  repeat' first | refine zzs ?_ | refine zzb ?_ | refine zzk ?_
  first | refine zzr hnt rfl ?_ ?_ | refine zzd hnt rfl ?_ ?_
  · exact zzt
  repeat' first | refine zzs ?_ | refine zzb ?_ | refine zzk ?_
  refine tr_cond rfl (fun hc => ?_) (fun hc => ?_)
  · exact absurd (of_decide_eq_true hc) n2
  repeat' first | refine zzs ?_ | refine zzb ?_ | refine zzk ?_
  refine tr_region (zzx hnt rfl ?_ (call rfl rfl rfl rfl rfl rfl rfl hnt (ih) (zzx hnt rfl ?_ (Lex.nil _)))) ?_
  · exact zza
  · exact zza
  refine tr_le (s' := St.of [(0, .agg (.es [eI op, eI v.k, eI v.i, eQ v.b, eT v.t, eT n, .sl [eEx a]])), (1, .one (.e (eCols cols))), (2, .one (.e (eRow row))), (3, .one (.ptr 3 0 0)), (6, .one (.ptr 6 0 0)), (9, .one (.ptr 9 0 0)), (10, .one (.e (eI e)))] [(3, ⟨0, .box (.es [eI op, eI v.k, eI v.i, eQ v.b, eT v.t, eT n, .sl [eEx a]]), 0⟩), (6, ⟨0, .box (.es (eVal val0)), 0⟩), (9, ⟨0, .box (.es (eVal u)), 0⟩)]) (le_of (ad := []) ⟨zzl, zzl, zzl, zzl, zzl, zzl, zzl, trivial⟩ (memOk_box rfl rfl rfl (memOk_box rfl rfl rfl (memOk_box rfl rfl rfl trivial)))) ?_
  repeat' first | refine zzs ?_ | refine zzr hnt rfl ?_ ?_ | refine zzd hnt rfl ?_ ?_ | refine zzb ?_ | refine zzk ?_
  · exact zzt
  have hB : (bif !decide (e = 0) then true else decide (((1 : Nat) : Int) = 1)) = true := by cases decide (e = 0) <;> rfl
  repeat' first | refine zzs ?_ | refine zzb ?_ | refine zzk ?_
  refine tr_cond rfl (fun hc => ?_) (fun hc => ?_)
  rotate_left
  · exact absurd (hB.symm.trans hc) Bool.noConfusion
  repeat' first | refine zzs ?_ | refine zzr hnt rfl ?_ ?_ | refine zzd hnt rfl ?_ ?_ | refine zzb ?_ | refine zzk ?_
  · exact zzt
  repeat' first | refine zzs ?_ | refine zzb ?_ | refine zzk ?_
  refine tr_cond rfl (fun hc => ?_) (fun hc => ?_)
  · simp only [zz1, zz2, zz3, zz4, zz5, zz6, zz7, zz8] at hc
    rw [if_pos hc] at hF
    subst hF
    repeat' first | refine zzs ?_ | refine zzr hnt rfl ?_ ?_ | refine zzd hnt rfl ?_ ?_ | refine zzb ?_ | refine zzk ?_
    · exact zzt
    exact tr_ret ⟨.inr rfl, _, _, rfl, zzp, rfl⟩
  simp only [zz1, zz2, zz3, zz4, zz5, zz6, zz7, zz8] at hc
  have hc : e = 0 := hc
  rw [if_neg (not_not_intro hc)] at hF
  subst hF
  have hg := did_fn op u val0 (hx hc) good_null (.inl ⟨ho, rfl⟩)
  have hd : dF op u val0 = oneF op u := if_pos ho
  rw [hd] at hg
  generalize oneF op u = A at *
  repeat' first | refine zzs ?_ | refine zzb ?_ | refine zzk ?_
  refine tr_region (zzx hnt rfl ?_ (call rfl rfl rfl rfl rfl rfl rfl hnt (hg) (zzx hnt rfl ?_ (Lex.nil _)))) ?_
  · exact zzt
  · exact zzt
  exact tr_ret ⟨.inr rfl, _, _, rfl, zzp, rfl⟩
theorem cutC {op : Int} {u : Val} (h : good u) : (bif (bif decide (op = 20) then !decide (u.k = 0) else false) then true else (bif decide (u.k = 1) then (bif (bif decide (op = 15) then decide (u.i = 0) else false) then true else (bif decide (op = 16) then decide (u.i = 1) else false)) else false)) = decide (cutB op u) := by
  have hf : u = bV false ↔ u.k = 1 ∧ u.i = 0 := by
    constructor
    · intro e; rw [e]; exact ⟨rfl, rfl⟩
    · intro e
      rcases chk_bool h.1 e.1 with h1 | h1
      · exact h1
      · rw [h1] at e; exact absurd e.2 (by decide)
  have ht : u = bV true ↔ u.k = 1 ∧ u.i = 1 := by
    constructor
    · intro e; rw [e]; exact ⟨rfl, rfl⟩
    · intro e
      rcases chk_bool h.1 e.1 with h1 | h1
      · rw [h1] at e; exact absurd e.2 (by decide)
      · exact h1
  have hc : cutB op u ↔ (op = 20 ∧ u.k ≠ 0) ∨ (op = 15 ∧ u.k = 1 ∧ u.i = 0) ∨ (op = 16 ∧ u.k = 1 ∧ u.i = 1) := by
    unfold cutB
    rw [hf, ht]
  rw [Bool.eq_iff_iff, decide_eq_true_iff, hc]
  by_cases h1 : op = 20 <;> by_cases h2 : u.k = 0 <;> by_cases h3 : u.k = 1 <;> by_cases h4 : op = 15 <;> by_cases h5 : u.i = 0 <;> by_cases h6 : op = 16 <;> by_cases h7 : u.i = 1 <;> simp [h1, h2, h3, h4, h5, h6, h7]
set_option maxRecDepth 10000 in
set_option maxHeartbeats 2000000 in
theorem valued_two (op : Int) (v : Val) (n : Byt) (a b : Ex) (cols : List Colm) (row : List Val) (x y : Val × Int) (ho : op2 op) (ih : FnD Tryz.prog 44 [.agg (.es (eEx a)), .one (.e (eCols cols)), .one (.e (eRow row))] (rVE x)) (hx : x.2 = 0 → good x.1) (ih2 : FnD Tryz.prog 44 [.agg (.es (eEx b)), .one (.e (eCols cols)), .one (.e (eRow row))] (rVE y)) (hy : y.2 = 0 → good y.1) : FnD Tryz.prog 44 [.agg (.es (eEx (.mk op v n [a, b]))), .one (.e (eCols cols)), .one (.e (eRow row))] (rVE (twnF op x y)) := by
  refine fn_intro (T := tab) tOk Tryz.func44 rfl (by kernel_rfl) (by simp [Tryz.ntmps44]) ?_
  intro X hX
  have hnt : X.nt = 115 := hX
  clear hX
  have h7 : 0 + 7 ≤ (Cs.es (eEx a)).len := by have := ex7 a; show 0 + 7 ≤ (eEx a).length; omega
  have h72 : 0 + 7 ≤ (Cs.es (eEx b)).len := by have := ex7 b; show 0 + 7 ≤ (eEx b).length; omega
  have g1 : (0 : Int) < ((2 : Nat) : Int) := by decide
  have g2 : (1 : Int) < ((2 : Nat) : Int) := by decide
  have k7 := ex7 a
  have k72 := ex7 b
  rw [eEx_two]
  rw [← exAll a] at ih
  rw [← exAll b] at ih2
  have hF : twnF op x y = twnF op x y := rfl
  conv at hF => rhs; unfold twnF
  generalize twnF op x y = Z at *
  obtain ⟨u, e⟩ := x
  obtain ⟨w, g⟩ := y
  dsimp only at hF hx hy
  have n1 : op ≠ 1 := by unfold op2 at ho; omega
  have n2 : op ≠ 2 := by unfold op2 at ho; omega
  repeat' first | refine zzs ?_ | refine zzr hnt rfl ?_ ?_ | refine zzd hnt rfl ?_ ?_ | refine zzb ?_ | refine zzk ?_
  · exact zzt
  · exact zzt
  · exact zzt
  repeat' first | refine zzs ?_ | refine zzb ?_ | refine zzk ?_
  refine tr_cond rfl (fun hc => ?_) (fun hc => ?_)
  · exact absurd (of_decide_eq_true hc) n1
  repeat' first | refine zzs ?_ | refine zzb ?_ | refine zzk ?_
  first | refine zzr hnt rfl ?_ ?_ | refine zzd hnt rfl ?_ ?_
  · exact zzt
  repeat' first | refine zzs ?_ | refine zzb ?_ | refine zzk ?_
  refine tr_cond rfl (fun hc => ?_) (fun hc => ?_)
  · exact absurd (of_decide_eq_true hc) n2
  repeat' first | refine zzs ?_ | refine zzb ?_ | refine zzk ?_
  refine tr_region (zzx hnt rfl ?_ (call rfl rfl rfl rfl rfl rfl rfl hnt (ih) (zzx hnt rfl ?_ (Lex.nil _)))) ?_
  · exact zza
  · exact zza
  refine tr_le (s' := St.of [(0, .agg (.es [eI op, eI v.k, eI v.i, eQ v.b, eT v.t, eT n, .sl [eEx a, eEx b]])), (1, .one (.e (eCols cols))), (2, .one (.e (eRow row))), (3, .one (.ptr 3 0 0)), (6, .one (.ptr 6 0 0)), (9, .one (.ptr 9 0 0)), (10, .one (.e (eI e)))] [(3, ⟨0, .box (.es [eI op, eI v.k, eI v.i, eQ v.b, eT v.t, eT n, .sl [eEx a, eEx b]]), 0⟩), (6, ⟨0, .box (.es (eVal val0)), 0⟩), (9, ⟨0, .box (.es (eVal u)), 0⟩)]) (le_of (ad := []) ⟨zzl, zzl, zzl, zzl, zzl, zzl, zzl, trivial⟩ (memOk_box rfl rfl rfl (memOk_box rfl rfl rfl (memOk_box rfl rfl rfl trivial)))) ?_
  repeat' first | refine zzs ?_ | refine zzr hnt rfl ?_ ?_ | refine zzd hnt rfl ?_ ?_ | refine zzb ?_ | refine zzk ?_
  · exact zzt
  have hB : (bif !decide (e = 0) then true else decide (((2 : Nat) : Int) = 1)) = !decide (e = 0) := by cases decide (e = 0) <;> rfl
  repeat' first | refine zzs ?_ | refine zzb ?_ | refine zzk ?_
  refine tr_cond rfl (fun hc => ?_) (fun hc => ?_)
  · have hc : (!decide (e = 0)) = true := hB.symm.trans hc
    have hc : e ≠ 0 := by simpa using hc
    rw [if_pos hc] at hF
    subst hF
    repeat' first | refine zzs ?_ | refine zzr hnt rfl ?_ ?_ | refine zzd hnt rfl ?_ ?_ | refine zzb ?_ | refine zzk ?_
    · exact zzt
    repeat' first | refine zzs ?_ | refine zzb ?_ | refine zzk ?_
    refine tr_cond rfl (fun hc => ?_) (fun hc => ?_)
    · repeat' first | refine zzs ?_ | refine zzr hnt rfl ?_ ?_ | refine zzd hnt rfl ?_ ?_ | refine zzb ?_ | refine zzk ?_
      · exact zzt
      exact tr_ret ⟨.inr rfl, _, _, rfl, zzp, rfl⟩
    simp only [zz1, zz2, zz3, zz4, zz5, zz6, zz7, zz8] at hc
    exact absurd hc ‹e ≠ 0›
  have hc : (!decide (e = 0)) = false := hB.symm.trans hc
  have hc : e = 0 := by simpa using hc
  rw [if_neg (not_not_intro hc)] at hF
  have gu := hx hc
  repeat' first | refine zzs ?_ | refine zzb ?_ | refine zzk ?_
  first | refine zzr hnt rfl ?_ ?_ | refine zzd hnt rfl ?_ ?_
  · exact zza
  have hC := cutC (op := op) gu
  repeat' first | refine zzs ?_ | refine zzb ?_ | refine zzk ?_
  refine tr_cond rfl (fun hc => ?_) (fun hc => ?_)
  · have hc := of_decide_eq_true (hC.symm.trans hc)
    rw [if_pos hc] at hF
    subst hF
    repeat' first | refine zzs ?_ | refine zzr hnt rfl ?_ ?_ | refine zzd hnt rfl ?_ ?_ | refine zzb ?_ | refine zzk ?_
    · exact zzt
    exact tr_ret ⟨.inr rfl, _, _, rfl, zzp, rfl⟩
  have hcn := of_decide_eq_false (hC.symm.trans hc)
  rw [if_neg hcn] at hF
  repeat' first | refine zzs ?_ | refine zzb ?_ | refine zzk ?_
  refine tr_region (zzx hnt rfl ?_ (call rfl rfl rfl rfl rfl rfl rfl hnt (ih2) (zzx hnt rfl ?_ (Lex.nil _)))) ?_
  · exact zza
  · exact zza
  refine tr_le (s' := St.of [(0, .agg (.es [eI op, eI v.k, eI v.i, eQ v.b, eT v.t, eT n, .sl [eEx a, eEx b]])), (3, .one (.ptr 3 0 0)), (6, .one (.ptr 6 0 0)), (9, .one (.ptr 9 0 0)), (11, .one (.ptr 11 0 0)), (10, .one (.e (eI g)))] [(3, ⟨0, .box (.es [eI op, eI v.k, eI v.i, eQ v.b, eT v.t, eT n, .sl [eEx a, eEx b]]), 0⟩), (6, ⟨0, .box (.es (eVal val0)), 0⟩), (9, ⟨0, .box (.es (eVal u)), 0⟩), (11, ⟨0, .box (.es (eVal w)), 0⟩)]) (le_of (ad := []) ⟨zzl, zzl, zzl, zzl, zzl, zzl, trivial⟩ (memOk_box rfl rfl rfl (memOk_box rfl rfl rfl (memOk_box rfl rfl rfl (memOk_box rfl rfl rfl trivial))))) ?_
  repeat' first | refine zzs ?_ | refine zzr hnt rfl ?_ ?_ | refine zzd hnt rfl ?_ ?_ | refine zzb ?_ | refine zzk ?_
  · exact zzt
  repeat' first | refine zzs ?_ | refine zzb ?_ | refine zzk ?_
  refine tr_cond rfl (fun hc => ?_) (fun hc => ?_)
  · simp only [zz1, zz2, zz3, zz4, zz5, zz6, zz7, zz8] at hc
    rw [if_pos hc] at hF
    subst hF
    repeat' first | refine zzs ?_ | refine zzr hnt rfl ?_ ?_ | refine zzd hnt rfl ?_ ?_ | refine zzb ?_ | refine zzk ?_
    · exact zzt
    exact tr_ret ⟨.inr rfl, _, _, rfl, zzp, rfl⟩
  simp only [zz1, zz2, zz3, zz4, zz5, zz6, zz7, zz8] at hc
  have hc : g = 0 := hc
  rw [if_neg (not_not_intro hc)] at hF
  subst hF
  have hg := did_fn op u w gu (hy hc) (.inr ho)
  have hd : dF op u w = tw2F op u w := if_neg (by unfold op2 at ho; omega)
  rw [hd] at hg
  generalize tw2F op u w = A at *
  repeat' first | refine zzs ?_ | refine zzb ?_ | refine zzk ?_
  refine tr_region (zzx hnt rfl ?_ (call rfl rfl rfl rfl rfl rfl rfl hnt (hg) (zzx hnt rfl ?_ (Lex.nil _)))) ?_
  · exact zzt
  · exact zzt
  exact tr_ret ⟨.inr rfl, _, _, rfl, zzp, rfl⟩
theorem lf_ev (cols : List Colm) (row : List Val) (x : Ex) (h : x.op ≠ 1) : (lfT cols x).ev row = if fsF cols x.n 0 < 0 then (val0, 5) else (row.getD (fsF cols x.n 0).toNat val0, 0) := by
  unfold lfT
  rw [if_neg h]
  split <;> rfl
theorem valued_all (cols : List Colm) (row : List Val) (hl : row.length = cols.length) (hg : ∀ v ∈ row, good v) (hu : uniq cols) : ∀ (m : Nat) (x : Ex), nodes x ≤ m → exOk x → ndF x = 0 → FnD Tryz.prog 44 [.agg (.es (eEx x)), .one (.e (eCols cols)), .one (.e (eRow row))] (rVE ((thO cols x).ev row))
  | 0, x, h, _, _ => absurd h (by have := nodes_pos x; omega)
  | m + 1, .mk op v n ar, h, ho, hn => by
    obtain ⟨n1, n2⟩ := nd_zero hn
    obtain ⟨k1, k2, k3, k4, k5, k6, k7⟩ := node_ok n1
    obtain ⟨w1, w2, w3⟩ := want_cases k1 k2
    have hL := exOk_kids ho
    change 1 ≤ op at k1
    change op ≤ 20 at k2
    change (ar.length : Int) = wantF op at k3
    change wantF op = 0 ↔ op = 1 ∨ op = 2 at w1
    change wantF op = 1 ↔ op1 op at w2
    change wantF op = 2 ↔ op2 op at w3
    have ok := th_ok cols row hl hg
    rw [thO_eq]
    match ar, h, n2, k3, hL with
    | [], h, n2, k3, hL =>
      rcases w1.1 k3.symm with rfl | rfl
      · exact valued_lit v n cols row
      · show FnD Tryz.prog 44 _ (rVE ((lfT cols (.mk 2 v n [])).ev row))
        rw [lf_ev cols row _ (by show (2 : Int) ≠ 1; decide)]
        show FnD Tryz.prog 44 _ (rVE (if fsF cols n 0 < 0 then (val0, 5) else (row.getD (fsF cols n 0).toNat val0, 0)))
        rw [← colAt_eq hu]
        exact valued_col v n cols row (by have : colAt cols n < cols.length := (colAtN_rng cols n cols.length).2; omega)
    | [a], h, n2, k3, hL =>
      have m1 := kid_nodes h (show a ∈ (Ex.mk op v n [a]).ar by show a ∈ [a]; simp)
      have e1 := hL.2 a (by show a ∈ [a]; simp)
      have z1 := n2 a (by show a ∈ [a]; simp)
      exact valued_one op v n a cols row _ (w2.1 k3.symm) (valued_all cols row hl hg hu m a m1 e1 z1) ((thO cols a).ev_good (ok m a m1 e1 z1))
    | [a, b], h, n2, k3, hL =>
      have m1 := kid_nodes h (show a ∈ (Ex.mk op v n [a, b]).ar by show a ∈ [a, b]; simp)
      have e1 := hL.2 a (by show a ∈ [a, b]; simp)
      have z1 := n2 a (by show a ∈ [a, b]; simp)
      have m2 := kid_nodes h (show b ∈ (Ex.mk op v n [a, b]).ar by show b ∈ [a, b]; simp)
      have e2 := hL.2 b (by show b ∈ [a, b]; simp)
      have z2 := n2 b (by show b ∈ [a, b]; simp)
      exact valued_two op v n a b cols row _ _ (w3.1 k3.symm) (valued_all cols row hl hg hu m a m1 e1 z1) ((thO cols a).ev_good (ok m a m1 e1 z1)) (valued_all cols row hl hg hu m b m2 e2 z2) ((thO cols b).ev_good (ok m b m2 e2 z2))
    | a :: b :: c :: r, h, n2, k3, hL =>
      have : wantF op ≤ 2 := by unfold wantF; split; decide; split <;> decide
      simp only [List.length_cons] at k3
      omega
theorem one_zero (op : Int) (v : Val) : (oneF op v).2 = 0 ∨ (oneF op v).1 = val0 := by
  unfold oneF
  repeat' split
  all_goals first | exact .inl rfl | exact .inr rfl
theorem tw2_zero (op : Int) (v w : Val) : (tw2F op v w).2 = 0 ∨ (tw2F op v w).1 = val0 := by
  unfold tw2F lgF jnF rkF rkN cpF
  repeat' split
  all_goals first | exact .inl rfl | exact .inr rfl
theorem tv_zero' : ∀ (x : Th) (row : List Val), (x.ev row).2 = 0 ∨ (x.ev row).1 = val0
  | .fix v, _ => .inl rfl
  | .plc i, _ => .inl rfl
  | .mis, _ => .inr rfl
  | .sol op a, row => by
    unfold Th.ev solF
    split
    · exact .inr rfl
    · exact one_zero _ _
  | .twn op a b, row => by
    unfold Th.ev twnF
    split
    · exact .inr rfl
    · split
      · exact .inl rfl
      · split
        · exact .inr rfl
        · exact tw2_zero _ _ _
theorem tv_zero (x : Th) (row : List Val) (h : (x.ev row).2 ≠ 0) : (x.ev row).1 = val0 := (tv_zero' x row).resolve_left h
end Go.Proofs.YthnadkafegmacaaGreatDoor
