/- Part of the proof: steps of the program over abstract states. No condition. -/
import Derived.Test.YtmicapdbgjafnaaTPartsOf
namespace Go.Proofs.Ytmicapdbgjafnaa
open Go Go.RowKit Go.Proofs.Ytmicapdbgjafnaa.Ab

theorem lsGet (ps : List (List UInt8)) {k : Nat} (h : k < ps.length) : (List.map (fun p => [eBytes p]) ps).getD k [] = [eBytes (ps.getD k [])] := by
  simp [List.getD, h]
theorem strEq_self (x : ByteArray) : (!strEq x x) = false := by simp [strEq]
set_option maxRecDepth 10000 in
theorem same_fn (ps : List (List UInt8)) (hb : ps.length ≤ 1000000000) : FnD Try.prog 15 [.one (.e (eLists ps)), .one (.e (eLists ps))] (.v (.bool true)) := by
  refine fn_intro (T := tab) tOk Try.func15 rfl (by kernel_rfl) (by simp [Try.ntmps15]) ?_
  intro X hX
  have hnt : X.nt = 28 := hX
  clear hX
  repeat' (first | refine tr_seq ?_ | refine reg (T := tab) tOk hnt rfl ?_ ?_ | refine tr_cond rfl (fun _ => ?_) (fun _ => ?_) | refine tr_block ?_ | refine tr_skip ?_ | refine tr_ret ?_ | refine tr_exit ?_)
  all_goals (try (simp only [AllP, true_and, and_true, implies_true]; done))
  · rename_i h
    simp at h
  refine tr_loop (σ := Nat) (fun k => St.of [(0, .one (.e (eLists ps))), (1, .one (.e (eLists ps))), (12, .v (.int .i64 ps.length)), (13, .v (.int .i64 k))] []) (fun k => k ≤ ps.length) (fun k => ps.length - k) 0 (le_of (ad := []) ⟨rfl, rfl, ?_, rfl, trivial⟩ trivial) (Nat.zero_le _) ?_
  · exact congrArg (fun z : Nat => E.v (.int .i64 (z : Int))) (List.length_map ..)
  intro k hk
  repeat' (first | refine tr_seq ?_ | refine reg (T := tab) tOk hnt rfl ?_ ?_ | refine regD (T := tab) tOk mixed hnt rfl (by decide +kernel) ?_ ?_ | refine tr_cond rfl (fun _ => ?_) (fun _ => ?_) | refine tr_block ?_ | refine tr_skip ?_ | refine tr_ret ?_ | refine tr_exit ?_)
  all_goals (try (simp only [AllP, true_and, and_true, implies_true]; done))
  · rename_i hlt
    have hlt := of_decide_eq_true hlt
    have hlt : k < ps.length := by omega
    have hk0 : (k : Int).toNat = k := rfl
    rw [hk0, lsGet ps hlt]
    have hby : ∀ cs ∈ eCells (ps.getD k []), isByte cs := eCells_isByte _
    have hL : (k : Int) < ((List.map (fun p => [eBytes p]) ps).length : Int) := by rw [List.length_map]; omega
    exact ⟨trivial, hby, ⟨Nat.zero_lt_one, rfl⟩, ⟨Int.natCast_nonneg _, hL, rfl⟩, trivial, trivial, hby, ⟨Nat.zero_lt_one, rfl⟩, ⟨Int.natCast_nonneg _, hL, rfl⟩, trivial, trivial⟩
  · rename_i h
    rw [strEq_self] at h
    cases h
  · rename_i hlt hs
    clear hs
    have hlt := of_decide_eq_true hlt
    have hlt : k < ps.length := by omega
    refine ⟨k + 1, by omega, by omega, le_of (ad := []) ⟨rfl, rfl, rfl, ?_, trivial⟩ trivial⟩
    refine congrArg (fun z : Int => E.v (.int .i64 z)) ?_
    exact wrap64_id (by omega) (by omega)
  · exact ⟨.inr rfl, _, _, rfl, by trivial, rfl⟩
end Go.Proofs.Ytmicapdbgjafnaa
