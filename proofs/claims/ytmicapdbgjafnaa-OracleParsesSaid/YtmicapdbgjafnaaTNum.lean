/- Part of the proof: steps of the program over abstract states. No condition. -/
import Derived.Test.YtmicapdbgjafnaaTParse
namespace Go.Proofs.Ytmicapdbgjafnaa
open Go Go.RowKit Go.Proofs.Ytmicapdbgjafnaa.Ab

/-- a string's bytes as a number -/
def numF (l : List UInt8) : Nat := l.foldl (fun n b => (n * 256 + b.toNat) % 18446744073709551616) 0
theorem numF_snoc (l : List UInt8) (b : UInt8) : numF (l ++ [b]) = (numF l * 256 + b.toNat) % 18446744073709551616 := by
  simp [numF]
theorem numF_lt (l : List UInt8) : numF l < 18446744073709551616 := by
  rcases List.eq_nil_or_concat l with rfl | ⟨r, b, rfl⟩
  · decide
  · rw [List.concat_eq_append, numF_snoc]; exact Nat.mod_lt _ (by decide)
theorem take_snocB (l : List UInt8) (k : Nat) (h : k < l.length) : l.take (k + 1) = l.take k ++ [l.getD k 0] := by
  rw [List.take_succ_eq_append_getElem h]
  simp [h]
theorem wrapU (n : Nat) : IntKind.u64.wrap (n : Int) = ((n % 18446744073709551616 : Nat) : Int) := by
  unfold IntKind.wrap
  simp [IntKind.bits, IntKind.signed]
theorem numStep (n : Nat) (b : UInt8) : IntKind.u64.wrap (IntKind.u64.wrap ((n : Int) * 256) + IntKind.u64.wrap (b.toNat : Int)) = (((n * 256 + b.toNat) % 18446744073709551616 : Nat) : Int) := by
  have hb := b.toNat_lt
  rw [show (n : Int) * 256 = ((n * 256 : Nat) : Int) by omega, wrapU, wrapU, ← Int.natCast_add, wrapU]
  congr 1
  omega

set_option maxRecDepth 10000 in
theorem num_fn (s : ByteArray) (hs : s.size ≤ 1000000000) : FnD Try.prog 31 [.v (.string s)] (.v (.int .u64 (numF s.data.toList : Int))) := by
  refine fn_intro (T := tab) tOk Try.func31 rfl (by kernel_rfl) (by simp [Try.ntmps31]) ?_
  intro X hX
  have hnt : X.nt = 19 := hX
  clear hX
  have hsz : s.data.toList.length = s.size := rfl
  repeat' (first | refine tr_seq ?_ | refine reg (T := tab) tOk hnt rfl ?_ ?_ | refine tr_cond rfl (fun _ => ?_) (fun _ => ?_) | refine tr_block ?_ | refine tr_skip ?_ | refine tr_ret ?_ | refine tr_exit ?_)
  all_goals (try (simp only [AllP, true_and, and_true, implies_true]; done))
  refine tr_loop (σ := Nat) (fun k => St.of [(0, .v (.string s)), (3, .v (.int .u64 (numF (s.data.toList.take k) : Int))), (4, .v (.int .i64 k))] []) (fun k => k ≤ s.size) (fun k => s.size - k) 0 (le_of (ad := []) ?_ trivial) (Nat.zero_le _) ?_
  · exact ⟨rfl, rfl, rfl, trivial⟩
  intro k hk
  repeat' (first | refine tr_seq ?_ | refine reg (T := tab) tOk hnt rfl ?_ ?_ | refine tr_cond rfl (fun _ => ?_) (fun _ => ?_) | refine tr_block ?_ | refine tr_skip ?_ | refine tr_ret ?_ | refine tr_exit ?_)
  all_goals (try (simp only [AllP, true_and, and_true, implies_true]; done))
  · rename_i h
    simp only [decide_eq_true_eq] at h
    dsimp only [AllP]
    simp only [true_and, and_true]
    exact ⟨by omega, by omega⟩
  · rename_i h
    simp only [decide_eq_true_eq] at h
    refine ⟨k + 1, by omega, by omega, le_of (ad := []) ⟨rfl, ?_, ?_, trivial⟩ trivial⟩
    · have := numStep (numF (s.data.toList.take k)) (s.data.toList.getD k 0)
      rw [← numF_snoc, ← take_snocB _ _ (by omega)] at this
      exact congrArg (fun z => E.v (.int .u64 z)) this
    · exact congrArg (fun z => E.v (.int .i64 z)) (wrap64_id (n := (k : Int) + 1) (by omega) (by omega))
  · rename_i h
    simp only [decide_eq_false_iff_not] at h
    refine ⟨.inr rfl, _, _, rfl, by trivial, ?_⟩
    have : s.data.toList.take k = s.data.toList := List.take_of_length_le (by omega)
    rw [this]
    rfl
end Go.Proofs.Ytmicapdbgjafnaa
