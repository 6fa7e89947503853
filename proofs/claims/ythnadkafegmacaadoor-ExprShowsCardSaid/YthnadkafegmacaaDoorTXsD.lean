/- Words of constant texts: strings.Fields run at them. No condition. -/
import Derived.Test.YthnadkafegmacaaDoorTXsC
namespace Go.Proofs.YthnadkafegmacaaDoor
open Go Go.RowKit Go.Proofs.YthnadkafegmacaaDoor.Ab
set_option linter.unusedSimpArgs false
set_option linter.unusedVariables false

section
variable {P : Program} {X : Ctx}
/-- a loop run round by round -/
def Rounds (P : Program) (X : Ctx) (c : Code) (Q : Exit → St → Prop) : Nat → St → Prop
  | 0, _ => False
  | n + 1, s => Tr P X c s (fun | .normal, s' => Rounds P X c Q n s' | e, s' => Q e s')
theorem rounds_go {c : Code} {Q : Exit → St → Prop} {n : Nat} {s : St} (h : Tr P X c s (fun | .normal, s' => Rounds P X c Q n s' | e, s' => Q e s')) : Rounds P X c Q (n + 1) s := h
theorem tr_unroll {c : Code} {Q : Exit → St → Prop} {s : St} (n : Nat) (h : Rounds P X c Q n s) : Tr P X (.loop c) s Q := by
  refine tr_loop (σ := Nat × St) (fun x => x.2) (fun x => Rounds P X c Q x.1 x.2) (fun x => x.1) (n, s) (fun _ _ h => h) h ?_
  rintro ⟨k, s⟩ hk
  cases k with
  | zero => exact hk.elim
  | succ k =>
    refine tr_mono hk fun e s' h => ?_
    cases e with
    | normal => exact ⟨(k, s'), h, Nat.lt_succ_self k, fun _ _ h => h⟩
    | _ => exact h
end
def spT : List Nat := (List.range 256).map fun i => if (9 ≤ i ∧ i ≤ 13) ∨ i = 32 then 1 else 0
def spE : List E := spT.map eU8
def mkE : List E := [[], [], [], [], [], [43], [45], [42], [47], [61], [60, 62], [60], [60, 61], [62], [62, 61], [65, 78, 68], [79, 82], [], [], [124, 124], []].map eT
def gX : List (Nat × List E) := [(3, fsE), (4, acE), (6, spE), (2, mkE)]
set_option maxRecDepth 10000 in
set_option maxHeartbeats 2000000 in
theorem fields_a : FnG Tryd.prog 139 ([(6, spE)]) [.one (.e (eT [45]))] (.one (.e (.sl ([[45]].map fun t => [eT t])))) := by
  refine fn_introG (T := tab) tOk Tryd.func139 rfl (by kernel_rfl) (by simp [Tryd.ntmps139]) ?_
  intro X hX
  have hnt : X.nt = 106 := hX
  clear hX
  repeat' (first | refine tr_seq ?_ | refine tr_block ?_ | refine tr_skip ?_ | refine tr_unroll 30 ?_ | refine rounds_go ?_ | refine tr_exit ?_ | refine reg (T := tab) tOk hnt rfl (by exact zzt) ?_ | refine regD (T := tab) tOk mixedR hnt rfl (by first | decide +kernel | kernel_rfl) (by exact zzt) ?_ | refine tr_cond rfl (fun hc => ?_) (fun hc => absurd (show true = false from hc) Bool.noConfusion) | refine tr_cond rfl (fun hc => absurd (show false = true from hc) Bool.noConfusion) (fun hc => ?_))
  exact tr_ret ⟨.inr rfl, _, _, rfl, zzp, rfl⟩
set_option maxRecDepth 10000 in
set_option maxHeartbeats 2000000 in
theorem fields_b : FnG Tryd.prog 139 ([(6, spE)]) [.one (.e (eT [78, 79, 84]))] (.one (.e (.sl ([[78, 79, 84]].map fun t => [eT t])))) := by
  refine fn_introG (T := tab) tOk Tryd.func139 rfl (by kernel_rfl) (by simp [Tryd.ntmps139]) ?_
  intro X hX
  have hnt : X.nt = 106 := hX
  clear hX
  repeat' (first | refine tr_seq ?_ | refine tr_block ?_ | refine tr_skip ?_ | refine tr_unroll 30 ?_ | refine rounds_go ?_ | refine tr_exit ?_ | refine reg (T := tab) tOk hnt rfl (by exact zzt) ?_ | refine regD (T := tab) tOk mixedR hnt rfl (by first | decide +kernel | kernel_rfl) (by exact zzt) ?_ | refine tr_cond rfl (fun hc => ?_) (fun hc => absurd (show true = false from hc) Bool.noConfusion) | refine tr_cond rfl (fun hc => absurd (show false = true from hc) Bool.noConfusion) (fun hc => ?_))
  exact tr_ret ⟨.inr rfl, _, _, rfl, zzp, rfl⟩
set_option maxRecDepth 10000 in
set_option maxHeartbeats 2000000 in
theorem fields_c : FnG Tryd.prog 139 ([(6, spE)]) [.one (.e (eT [40]))] (.one (.e (.sl ([[40]].map fun t => [eT t])))) := by
  refine fn_introG (T := tab) tOk Tryd.func139 rfl (by kernel_rfl) (by simp [Tryd.ntmps139]) ?_
  intro X hX
  have hnt : X.nt = 106 := hX
  clear hX
  repeat' (first | refine tr_seq ?_ | refine tr_block ?_ | refine tr_skip ?_ | refine tr_unroll 30 ?_ | refine rounds_go ?_ | refine tr_exit ?_ | refine reg (T := tab) tOk hnt rfl (by exact zzt) ?_ | refine regD (T := tab) tOk mixedR hnt rfl (by first | decide +kernel | kernel_rfl) (by exact zzt) ?_ | refine tr_cond rfl (fun hc => ?_) (fun hc => absurd (show true = false from hc) Bool.noConfusion) | refine tr_cond rfl (fun hc => absurd (show false = true from hc) Bool.noConfusion) (fun hc => ?_))
  exact tr_ret ⟨.inr rfl, _, _, rfl, zzp, rfl⟩
set_option maxRecDepth 10000 in
set_option maxHeartbeats 2000000 in
theorem fields_d : FnG Tryd.prog 139 ([(6, spE)]) [.one (.e (eT [41]))] (.one (.e (.sl ([[41]].map fun t => [eT t])))) := by
  refine fn_introG (T := tab) tOk Tryd.func139 rfl (by kernel_rfl) (by simp [Tryd.ntmps139]) ?_
  intro X hX
  have hnt : X.nt = 106 := hX
  clear hX
  repeat' (first | refine tr_seq ?_ | refine tr_block ?_ | refine tr_skip ?_ | refine tr_unroll 30 ?_ | refine rounds_go ?_ | refine tr_exit ?_ | refine reg (T := tab) tOk hnt rfl (by exact zzt) ?_ | refine regD (T := tab) tOk mixedR hnt rfl (by first | decide +kernel | kernel_rfl) (by exact zzt) ?_ | refine tr_cond rfl (fun hc => ?_) (fun hc => absurd (show true = false from hc) Bool.noConfusion) | refine tr_cond rfl (fun hc => absurd (show false = true from hc) Bool.noConfusion) (fun hc => ?_))
  exact tr_ret ⟨.inr rfl, _, _, rfl, zzp, rfl⟩
set_option maxRecDepth 10000 in
set_option maxHeartbeats 2000000 in
theorem fields_e : FnG Tryd.prog 139 ([(6, spE)]) [.one (.e (eT [73, 83, 32, 78, 85, 76, 76]))] (.one (.e (.sl ([[73, 83], [78, 85, 76, 76]].map fun t => [eT t])))) := by
  refine fn_introG (T := tab) tOk Tryd.func139 rfl (by kernel_rfl) (by simp [Tryd.ntmps139]) ?_
  intro X hX
  have hnt : X.nt = 106 := hX
  clear hX
  repeat' (first | refine tr_seq ?_ | refine tr_block ?_ | refine tr_skip ?_ | refine tr_unroll 30 ?_ | refine rounds_go ?_ | refine tr_exit ?_ | refine reg (T := tab) tOk hnt rfl (by exact zzt) ?_ | refine regD (T := tab) tOk mixedR hnt rfl (by first | decide +kernel | kernel_rfl) (by exact zzt) ?_ | refine tr_cond rfl (fun hc => ?_) (fun hc => absurd (show true = false from hc) Bool.noConfusion) | refine tr_cond rfl (fun hc => absurd (show false = true from hc) Bool.noConfusion) (fun hc => ?_))
  exact tr_ret ⟨.inr rfl, _, _, rfl, zzp, rfl⟩
set_option maxRecDepth 10000 in
set_option maxHeartbeats 2000000 in
theorem fields_f : FnG Tryd.prog 139 ([(6, spE)]) [.one (.e (eT [76, 69, 78, 71, 84, 72, 32, 40]))] (.one (.e (.sl ([[76, 69, 78, 71, 84, 72], [40]].map fun t => [eT t])))) := by
  refine fn_introG (T := tab) tOk Tryd.func139 rfl (by kernel_rfl) (by simp [Tryd.ntmps139]) ?_
  intro X hX
  have hnt : X.nt = 106 := hX
  clear hX
  repeat' (first | refine tr_seq ?_ | refine tr_block ?_ | refine tr_skip ?_ | refine tr_unroll 30 ?_ | refine rounds_go ?_ | refine tr_exit ?_ | refine reg (T := tab) tOk hnt rfl (by exact zzt) ?_ | refine regD (T := tab) tOk mixedR hnt rfl (by first | decide +kernel | kernel_rfl) (by exact zzt) ?_ | refine tr_cond rfl (fun hc => ?_) (fun hc => absurd (show true = false from hc) Bool.noConfusion) | refine tr_cond rfl (fun hc => absurd (show false = true from hc) Bool.noConfusion) (fun hc => ?_))
  exact tr_ret ⟨.inr rfl, _, _, rfl, zzp, rfl⟩
set_option maxRecDepth 10000 in
set_option maxHeartbeats 2000000 in
theorem fields_g : FnG Tryd.prog 139 ([(6, spE)]) [.one (.e (eT [67, 79, 65, 76, 69, 83, 67, 69, 32, 40]))] (.one (.e (.sl ([[67, 79, 65, 76, 69, 83, 67, 69], [40]].map fun t => [eT t])))) := by
  refine fn_introG (T := tab) tOk Tryd.func139 rfl (by kernel_rfl) (by simp [Tryd.ntmps139]) ?_
  intro X hX
  have hnt : X.nt = 106 := hX
  clear hX
  repeat' (first | refine tr_seq ?_ | refine tr_block ?_ | refine tr_skip ?_ | refine tr_unroll 30 ?_ | refine rounds_go ?_ | refine tr_exit ?_ | refine reg (T := tab) tOk hnt rfl (by exact zzt) ?_ | refine regD (T := tab) tOk mixedR hnt rfl (by first | decide +kernel | kernel_rfl) (by exact zzt) ?_ | refine tr_cond rfl (fun hc => ?_) (fun hc => absurd (show true = false from hc) Bool.noConfusion) | refine tr_cond rfl (fun hc => absurd (show false = true from hc) Bool.noConfusion) (fun hc => ?_))
  exact tr_ret ⟨.inr rfl, _, _, rfl, zzp, rfl⟩
set_option maxRecDepth 10000 in
set_option maxHeartbeats 2000000 in
theorem fields_h : FnG Tryd.prog 139 ([(6, spE)]) [.one (.e (eT [44]))] (.one (.e (.sl ([[44]].map fun t => [eT t])))) := by
  refine fn_introG (T := tab) tOk Tryd.func139 rfl (by kernel_rfl) (by simp [Tryd.ntmps139]) ?_
  intro X hX
  have hnt : X.nt = 106 := hX
  clear hX
  repeat' (first | refine tr_seq ?_ | refine tr_block ?_ | refine tr_skip ?_ | refine tr_unroll 30 ?_ | refine rounds_go ?_ | refine tr_exit ?_ | refine reg (T := tab) tOk hnt rfl (by exact zzt) ?_ | refine regD (T := tab) tOk mixedR hnt rfl (by first | decide +kernel | kernel_rfl) (by exact zzt) ?_ | refine tr_cond rfl (fun hc => ?_) (fun hc => absurd (show true = false from hc) Bool.noConfusion) | refine tr_cond rfl (fun hc => absurd (show false = true from hc) Bool.noConfusion) (fun hc => ?_))
  exact tr_ret ⟨.inr rfl, _, _, rfl, zzp, rfl⟩
set_option maxRecDepth 10000 in
set_option maxHeartbeats 2000000 in
theorem fields_i : FnG Tryd.prog 139 ([(6, spE)]) [.one (.e (eT [78, 85, 76, 76]))] (.one (.e (.sl ([[78, 85, 76, 76]].map fun t => [eT t])))) := by
  refine fn_introG (T := tab) tOk Tryd.func139 rfl (by kernel_rfl) (by simp [Tryd.ntmps139]) ?_
  intro X hX
  have hnt : X.nt = 106 := hX
  clear hX
  repeat' (first | refine tr_seq ?_ | refine tr_block ?_ | refine tr_skip ?_ | refine tr_unroll 30 ?_ | refine rounds_go ?_ | refine tr_exit ?_ | refine reg (T := tab) tOk hnt rfl (by exact zzt) ?_ | refine regD (T := tab) tOk mixedR hnt rfl (by first | decide +kernel | kernel_rfl) (by exact zzt) ?_ | refine tr_cond rfl (fun hc => ?_) (fun hc => absurd (show true = false from hc) Bool.noConfusion) | refine tr_cond rfl (fun hc => absurd (show false = true from hc) Bool.noConfusion) (fun hc => ?_))
  exact tr_ret ⟨.inr rfl, _, _, rfl, zzp, rfl⟩
set_option maxRecDepth 10000 in
set_option maxHeartbeats 2000000 in
theorem fields_j : FnG Tryd.prog 139 ([(6, spE)]) [.one (.e (eT [70, 65, 76, 83, 69]))] (.one (.e (.sl ([[70, 65, 76, 83, 69]].map fun t => [eT t])))) := by
  refine fn_introG (T := tab) tOk Tryd.func139 rfl (by kernel_rfl) (by simp [Tryd.ntmps139]) ?_
  intro X hX
  have hnt : X.nt = 106 := hX
  clear hX
  repeat' (first | refine tr_seq ?_ | refine tr_block ?_ | refine tr_skip ?_ | refine tr_unroll 30 ?_ | refine rounds_go ?_ | refine tr_exit ?_ | refine reg (T := tab) tOk hnt rfl (by exact zzt) ?_ | refine regD (T := tab) tOk mixedR hnt rfl (by first | decide +kernel | kernel_rfl) (by exact zzt) ?_ | refine tr_cond rfl (fun hc => ?_) (fun hc => absurd (show true = false from hc) Bool.noConfusion) | refine tr_cond rfl (fun hc => absurd (show false = true from hc) Bool.noConfusion) (fun hc => ?_))
  exact tr_ret ⟨.inr rfl, _, _, rfl, zzp, rfl⟩
set_option maxRecDepth 10000 in
set_option maxHeartbeats 2000000 in
theorem fields_k : FnG Tryd.prog 139 ([(6, spE)]) [.one (.e (eT [84, 82, 85, 69]))] (.one (.e (.sl ([[84, 82, 85, 69]].map fun t => [eT t])))) := by
  refine fn_introG (T := tab) tOk Tryd.func139 rfl (by kernel_rfl) (by simp [Tryd.ntmps139]) ?_
  intro X hX
  have hnt : X.nt = 106 := hX
  clear hX
  repeat' (first | refine tr_seq ?_ | refine tr_block ?_ | refine tr_skip ?_ | refine tr_unroll 30 ?_ | refine rounds_go ?_ | refine tr_exit ?_ | refine reg (T := tab) tOk hnt rfl (by exact zzt) ?_ | refine regD (T := tab) tOk mixedR hnt rfl (by first | decide +kernel | kernel_rfl) (by exact zzt) ?_ | refine tr_cond rfl (fun hc => ?_) (fun hc => absurd (show true = false from hc) Bool.noConfusion) | refine tr_cond rfl (fun hc => absurd (show false = true from hc) Bool.noConfusion) (fun hc => ?_))
  exact tr_ret ⟨.inr rfl, _, _, rfl, zzp, rfl⟩
def grT : Byt := [65, 66, 67, 68, 69, 70, 71, 72, 73, 74, 75, 76, 77, 78, 79, 80, 81, 82, 83, 84, 85, 86, 87, 88, 89, 90]
set_option maxRecDepth 10000 in
set_option maxHeartbeats 2000000 in
theorem tokens_a : FnG Tryd.prog 75 ([(6, spE)]) [.one (.e (eT [45]))] (.one (.e (eTks [sgT [45]]))) := by
  refine fn_introG (T := tab) tOk Tryd.func75 rfl (by kernel_rfl) (by simp [Tryd.ntmps75]) ?_
  intro X hX
  have hnt : X.nt = 25 := hX
  clear hX
  repeat' (first | refine tr_seq ?_ | refine tr_block ?_ | refine tr_skip ?_ | refine tr_unroll 30 ?_ | refine rounds_go ?_ | refine tr_exit ?_ | refine reg (T := tab) tOk hnt rfl (by exact zzt) ?_ | refine regD (T := tab) tOk mixedR hnt rfl (by first | decide +kernel | kernel_rfl) (by exact zzt) ?_ | refine tr_cond rfl (fun hc => ?_) (fun hc => absurd (show true = false from hc) Bool.noConfusion) | refine tr_cond rfl (fun hc => absurd (show false = true from hc) Bool.noConfusion) (fun hc => ?_))
  have h := fields_a
  repeat' first | refine zzs ?_ | refine zzb ?_ | refine zzk ?_
  refine tr_region (zzx hnt rfl ?_ (callV rfl rfl rfl rfl rfl rfl rfl hnt rfl (h) (zzx hnt rfl ?_ (Lex.nil _)))) ?_
  · exact zzt
  · exact zzt
  repeat' (first | refine tr_seq ?_ | refine tr_block ?_ | refine tr_skip ?_ | refine tr_unroll 30 ?_ | refine rounds_go ?_ | refine tr_exit ?_ | refine reg (T := tab) tOk hnt rfl (by exact zzt) ?_ | refine regD (T := tab) tOk mixedR hnt rfl (by first | decide +kernel | kernel_rfl) (by exact zzt) ?_ | refine tr_cond rfl (fun hc => ?_) (fun hc => absurd (show true = false from hc) Bool.noConfusion) | refine tr_cond rfl (fun hc => absurd (show false = true from hc) Bool.noConfusion) (fun hc => ?_))
  have h := among_fn 45 grT (by decide)
  repeat' first | refine zzs ?_ | refine zzb ?_ | refine zzk ?_
  refine tr_region (zzx hnt rfl ?_ (call rfl rfl rfl rfl rfl rfl rfl hnt (h) (zzx hnt rfl ?_ (Lex.nil _)))) ?_
  · exact zzt
  · exact zzt
  repeat' (first | refine tr_seq ?_ | refine tr_block ?_ | refine tr_skip ?_ | refine tr_unroll 30 ?_ | refine rounds_go ?_ | refine tr_exit ?_ | refine reg (T := tab) tOk hnt rfl (by exact zzt) ?_ | refine regD (T := tab) tOk mixedR hnt rfl (by first | decide +kernel | kernel_rfl) (by exact zzt) ?_ | refine tr_cond rfl (fun hc => ?_) (fun hc => absurd (show true = false from hc) Bool.noConfusion) | refine tr_cond rfl (fun hc => absurd (show false = true from hc) Bool.noConfusion) (fun hc => ?_))
  exact tr_ret ⟨.inr rfl, _, _, rfl, zzp, rfl⟩
set_option maxRecDepth 10000 in
set_option maxHeartbeats 2000000 in
theorem tokens_b : FnG Tryd.prog 75 ([(6, spE)]) [.one (.e (eT [78, 79, 84]))] (.one (.e (eTks [wdT [78, 79, 84]]))) := by
  refine fn_introG (T := tab) tOk Tryd.func75 rfl (by kernel_rfl) (by simp [Tryd.ntmps75]) ?_
  intro X hX
  have hnt : X.nt = 25 := hX
  clear hX
  repeat' (first | refine tr_seq ?_ | refine tr_block ?_ | refine tr_skip ?_ | refine tr_unroll 30 ?_ | refine rounds_go ?_ | refine tr_exit ?_ | refine reg (T := tab) tOk hnt rfl (by exact zzt) ?_ | refine regD (T := tab) tOk mixedR hnt rfl (by first | decide +kernel | kernel_rfl) (by exact zzt) ?_ | refine tr_cond rfl (fun hc => ?_) (fun hc => absurd (show true = false from hc) Bool.noConfusion) | refine tr_cond rfl (fun hc => absurd (show false = true from hc) Bool.noConfusion) (fun hc => ?_))
  have h := fields_b
  repeat' first | refine zzs ?_ | refine zzb ?_ | refine zzk ?_
  refine tr_region (zzx hnt rfl ?_ (callV rfl rfl rfl rfl rfl rfl rfl hnt rfl (h) (zzx hnt rfl ?_ (Lex.nil _)))) ?_
  · exact zzt
  · exact zzt
  repeat' (first | refine tr_seq ?_ | refine tr_block ?_ | refine tr_skip ?_ | refine tr_unroll 30 ?_ | refine rounds_go ?_ | refine tr_exit ?_ | refine reg (T := tab) tOk hnt rfl (by exact zzt) ?_ | refine regD (T := tab) tOk mixedR hnt rfl (by first | decide +kernel | kernel_rfl) (by exact zzt) ?_ | refine tr_cond rfl (fun hc => ?_) (fun hc => absurd (show true = false from hc) Bool.noConfusion) | refine tr_cond rfl (fun hc => absurd (show false = true from hc) Bool.noConfusion) (fun hc => ?_))
  have h := among_fn 78 grT (by decide)
  repeat' first | refine zzs ?_ | refine zzb ?_ | refine zzk ?_
  refine tr_region (zzx hnt rfl ?_ (call rfl rfl rfl rfl rfl rfl rfl hnt (h) (zzx hnt rfl ?_ (Lex.nil _)))) ?_
  · exact zzt
  · exact zzt
  repeat' (first | refine tr_seq ?_ | refine tr_block ?_ | refine tr_skip ?_ | refine tr_unroll 30 ?_ | refine rounds_go ?_ | refine tr_exit ?_ | refine reg (T := tab) tOk hnt rfl (by exact zzt) ?_ | refine regD (T := tab) tOk mixedR hnt rfl (by first | decide +kernel | kernel_rfl) (by exact zzt) ?_ | refine tr_cond rfl (fun hc => ?_) (fun hc => absurd (show true = false from hc) Bool.noConfusion) | refine tr_cond rfl (fun hc => absurd (show false = true from hc) Bool.noConfusion) (fun hc => ?_))
  exact tr_ret ⟨.inr rfl, _, _, rfl, zzp, rfl⟩
set_option maxRecDepth 10000 in
set_option maxHeartbeats 2000000 in
theorem tokens_c : FnG Tryd.prog 75 ([(6, spE)]) [.one (.e (eT [40]))] (.one (.e (eTks [sgT [40]]))) := by
  refine fn_introG (T := tab) tOk Tryd.func75 rfl (by kernel_rfl) (by simp [Tryd.ntmps75]) ?_
  intro X hX
  have hnt : X.nt = 25 := hX
  clear hX
  repeat' (first | refine tr_seq ?_ | refine tr_block ?_ | refine tr_skip ?_ | refine tr_unroll 30 ?_ | refine rounds_go ?_ | refine tr_exit ?_ | refine reg (T := tab) tOk hnt rfl (by exact zzt) ?_ | refine regD (T := tab) tOk mixedR hnt rfl (by first | decide +kernel | kernel_rfl) (by exact zzt) ?_ | refine tr_cond rfl (fun hc => ?_) (fun hc => absurd (show true = false from hc) Bool.noConfusion) | refine tr_cond rfl (fun hc => absurd (show false = true from hc) Bool.noConfusion) (fun hc => ?_))
  have h := fields_c
  repeat' first | refine zzs ?_ | refine zzb ?_ | refine zzk ?_
  refine tr_region (zzx hnt rfl ?_ (callV rfl rfl rfl rfl rfl rfl rfl hnt rfl (h) (zzx hnt rfl ?_ (Lex.nil _)))) ?_
  · exact zzt
  · exact zzt
  repeat' (first | refine tr_seq ?_ | refine tr_block ?_ | refine tr_skip ?_ | refine tr_unroll 30 ?_ | refine rounds_go ?_ | refine tr_exit ?_ | refine reg (T := tab) tOk hnt rfl (by exact zzt) ?_ | refine regD (T := tab) tOk mixedR hnt rfl (by first | decide +kernel | kernel_rfl) (by exact zzt) ?_ | refine tr_cond rfl (fun hc => ?_) (fun hc => absurd (show true = false from hc) Bool.noConfusion) | refine tr_cond rfl (fun hc => absurd (show false = true from hc) Bool.noConfusion) (fun hc => ?_))
  have h := among_fn 40 grT (by decide)
  repeat' first | refine zzs ?_ | refine zzb ?_ | refine zzk ?_
  refine tr_region (zzx hnt rfl ?_ (call rfl rfl rfl rfl rfl rfl rfl hnt (h) (zzx hnt rfl ?_ (Lex.nil _)))) ?_
  · exact zzt
  · exact zzt
  repeat' (first | refine tr_seq ?_ | refine tr_block ?_ | refine tr_skip ?_ | refine tr_unroll 30 ?_ | refine rounds_go ?_ | refine tr_exit ?_ | refine reg (T := tab) tOk hnt rfl (by exact zzt) ?_ | refine regD (T := tab) tOk mixedR hnt rfl (by first | decide +kernel | kernel_rfl) (by exact zzt) ?_ | refine tr_cond rfl (fun hc => ?_) (fun hc => absurd (show true = false from hc) Bool.noConfusion) | refine tr_cond rfl (fun hc => absurd (show false = true from hc) Bool.noConfusion) (fun hc => ?_))
  exact tr_ret ⟨.inr rfl, _, _, rfl, zzp, rfl⟩
set_option maxRecDepth 10000 in
set_option maxHeartbeats 2000000 in
theorem tokens_d : FnG Tryd.prog 75 ([(6, spE)]) [.one (.e (eT [41]))] (.one (.e (eTks [sgT [41]]))) := by
  refine fn_introG (T := tab) tOk Tryd.func75 rfl (by kernel_rfl) (by simp [Tryd.ntmps75]) ?_
  intro X hX
  have hnt : X.nt = 25 := hX
  clear hX
  repeat' (first | refine tr_seq ?_ | refine tr_block ?_ | refine tr_skip ?_ | refine tr_unroll 30 ?_ | refine rounds_go ?_ | refine tr_exit ?_ | refine reg (T := tab) tOk hnt rfl (by exact zzt) ?_ | refine regD (T := tab) tOk mixedR hnt rfl (by first | decide +kernel | kernel_rfl) (by exact zzt) ?_ | refine tr_cond rfl (fun hc => ?_) (fun hc => absurd (show true = false from hc) Bool.noConfusion) | refine tr_cond rfl (fun hc => absurd (show false = true from hc) Bool.noConfusion) (fun hc => ?_))
  have h := fields_d
  repeat' first | refine zzs ?_ | refine zzb ?_ | refine zzk ?_
  refine tr_region (zzx hnt rfl ?_ (callV rfl rfl rfl rfl rfl rfl rfl hnt rfl (h) (zzx hnt rfl ?_ (Lex.nil _)))) ?_
  · exact zzt
  · exact zzt
  repeat' (first | refine tr_seq ?_ | refine tr_block ?_ | refine tr_skip ?_ | refine tr_unroll 30 ?_ | refine rounds_go ?_ | refine tr_exit ?_ | refine reg (T := tab) tOk hnt rfl (by exact zzt) ?_ | refine regD (T := tab) tOk mixedR hnt rfl (by first | decide +kernel | kernel_rfl) (by exact zzt) ?_ | refine tr_cond rfl (fun hc => ?_) (fun hc => absurd (show true = false from hc) Bool.noConfusion) | refine tr_cond rfl (fun hc => absurd (show false = true from hc) Bool.noConfusion) (fun hc => ?_))
  have h := among_fn 41 grT (by decide)
  repeat' first | refine zzs ?_ | refine zzb ?_ | refine zzk ?_
  refine tr_region (zzx hnt rfl ?_ (call rfl rfl rfl rfl rfl rfl rfl hnt (h) (zzx hnt rfl ?_ (Lex.nil _)))) ?_
  · exact zzt
  · exact zzt
  repeat' (first | refine tr_seq ?_ | refine tr_block ?_ | refine tr_skip ?_ | refine tr_unroll 30 ?_ | refine rounds_go ?_ | refine tr_exit ?_ | refine reg (T := tab) tOk hnt rfl (by exact zzt) ?_ | refine regD (T := tab) tOk mixedR hnt rfl (by first | decide +kernel | kernel_rfl) (by exact zzt) ?_ | refine tr_cond rfl (fun hc => ?_) (fun hc => absurd (show true = false from hc) Bool.noConfusion) | refine tr_cond rfl (fun hc => absurd (show false = true from hc) Bool.noConfusion) (fun hc => ?_))
  exact tr_ret ⟨.inr rfl, _, _, rfl, zzp, rfl⟩
set_option maxRecDepth 10000 in
set_option maxHeartbeats 2000000 in
theorem tokens_e : FnG Tryd.prog 75 ([(6, spE)]) [.one (.e (eT [73, 83, 32, 78, 85, 76, 76]))] (.one (.e (eTks [wdT [73, 83], wdT [78, 85, 76, 76]]))) := by
  refine fn_introG (T := tab) tOk Tryd.func75 rfl (by kernel_rfl) (by simp [Tryd.ntmps75]) ?_
  intro X hX
  have hnt : X.nt = 25 := hX
  clear hX
  repeat' (first | refine tr_seq ?_ | refine tr_block ?_ | refine tr_skip ?_ | refine tr_unroll 30 ?_ | refine rounds_go ?_ | refine tr_exit ?_ | refine reg (T := tab) tOk hnt rfl (by exact zzt) ?_ | refine regD (T := tab) tOk mixedR hnt rfl (by first | decide +kernel | kernel_rfl) (by exact zzt) ?_ | refine tr_cond rfl (fun hc => ?_) (fun hc => absurd (show true = false from hc) Bool.noConfusion) | refine tr_cond rfl (fun hc => absurd (show false = true from hc) Bool.noConfusion) (fun hc => ?_))
  have h := fields_e
  repeat' first | refine zzs ?_ | refine zzb ?_ | refine zzk ?_
  refine tr_region (zzx hnt rfl ?_ (callV rfl rfl rfl rfl rfl rfl rfl hnt rfl (h) (zzx hnt rfl ?_ (Lex.nil _)))) ?_
  · exact zzt
  · exact zzt
  repeat' (first | refine tr_seq ?_ | refine tr_block ?_ | refine tr_skip ?_ | refine tr_unroll 30 ?_ | refine rounds_go ?_ | refine tr_exit ?_ | refine reg (T := tab) tOk hnt rfl (by exact zzt) ?_ | refine regD (T := tab) tOk mixedR hnt rfl (by first | decide +kernel | kernel_rfl) (by exact zzt) ?_ | refine tr_cond rfl (fun hc => ?_) (fun hc => absurd (show true = false from hc) Bool.noConfusion) | refine tr_cond rfl (fun hc => absurd (show false = true from hc) Bool.noConfusion) (fun hc => ?_))
  have h := among_fn 73 grT (by decide)
  repeat' first | refine zzs ?_ | refine zzb ?_ | refine zzk ?_
  refine tr_region (zzx hnt rfl ?_ (call rfl rfl rfl rfl rfl rfl rfl hnt (h) (zzx hnt rfl ?_ (Lex.nil _)))) ?_
  · exact zzt
  · exact zzt
  repeat' (first | refine tr_seq ?_ | refine tr_block ?_ | refine tr_skip ?_ | refine tr_unroll 30 ?_ | refine rounds_go ?_ | refine tr_exit ?_ | refine reg (T := tab) tOk hnt rfl (by exact zzt) ?_ | refine regD (T := tab) tOk mixedR hnt rfl (by first | decide +kernel | kernel_rfl) (by exact zzt) ?_ | refine tr_cond rfl (fun hc => ?_) (fun hc => absurd (show true = false from hc) Bool.noConfusion) | refine tr_cond rfl (fun hc => absurd (show false = true from hc) Bool.noConfusion) (fun hc => ?_))
  have h := among_fn 78 grT (by decide)
  repeat' first | refine zzs ?_ | refine zzb ?_ | refine zzk ?_
  refine tr_region (zzx hnt rfl ?_ (call rfl rfl rfl rfl rfl rfl rfl hnt (h) (zzx hnt rfl ?_ (Lex.nil _)))) ?_
  · exact zzt
  · exact zzt
  repeat' (first | refine tr_seq ?_ | refine tr_block ?_ | refine tr_skip ?_ | refine tr_unroll 30 ?_ | refine rounds_go ?_ | refine tr_exit ?_ | refine reg (T := tab) tOk hnt rfl (by exact zzt) ?_ | refine regD (T := tab) tOk mixedR hnt rfl (by first | decide +kernel | kernel_rfl) (by exact zzt) ?_ | refine tr_cond rfl (fun hc => ?_) (fun hc => absurd (show true = false from hc) Bool.noConfusion) | refine tr_cond rfl (fun hc => absurd (show false = true from hc) Bool.noConfusion) (fun hc => ?_))
  exact tr_ret ⟨.inr rfl, _, _, rfl, zzp, rfl⟩
set_option maxRecDepth 10000 in
set_option maxHeartbeats 2000000 in
theorem tokens_f : FnG Tryd.prog 75 ([(6, spE)]) [.one (.e (eT [76, 69, 78, 71, 84, 72, 32, 40]))] (.one (.e (eTks [wdT [76, 69, 78, 71, 84, 72], sgT [40]]))) := by
  refine fn_introG (T := tab) tOk Tryd.func75 rfl (by kernel_rfl) (by simp [Tryd.ntmps75]) ?_
  intro X hX
  have hnt : X.nt = 25 := hX
  clear hX
  repeat' (first | refine tr_seq ?_ | refine tr_block ?_ | refine tr_skip ?_ | refine tr_unroll 30 ?_ | refine rounds_go ?_ | refine tr_exit ?_ | refine reg (T := tab) tOk hnt rfl (by exact zzt) ?_ | refine regD (T := tab) tOk mixedR hnt rfl (by first | decide +kernel | kernel_rfl) (by exact zzt) ?_ | refine tr_cond rfl (fun hc => ?_) (fun hc => absurd (show true = false from hc) Bool.noConfusion) | refine tr_cond rfl (fun hc => absurd (show false = true from hc) Bool.noConfusion) (fun hc => ?_))
  have h := fields_f
  repeat' first | refine zzs ?_ | refine zzb ?_ | refine zzk ?_
  refine tr_region (zzx hnt rfl ?_ (callV rfl rfl rfl rfl rfl rfl rfl hnt rfl (h) (zzx hnt rfl ?_ (Lex.nil _)))) ?_
  · exact zzt
  · exact zzt
  repeat' (first | refine tr_seq ?_ | refine tr_block ?_ | refine tr_skip ?_ | refine tr_unroll 30 ?_ | refine rounds_go ?_ | refine tr_exit ?_ | refine reg (T := tab) tOk hnt rfl (by exact zzt) ?_ | refine regD (T := tab) tOk mixedR hnt rfl (by first | decide +kernel | kernel_rfl) (by exact zzt) ?_ | refine tr_cond rfl (fun hc => ?_) (fun hc => absurd (show true = false from hc) Bool.noConfusion) | refine tr_cond rfl (fun hc => absurd (show false = true from hc) Bool.noConfusion) (fun hc => ?_))
  have h := among_fn 76 grT (by decide)
  repeat' first | refine zzs ?_ | refine zzb ?_ | refine zzk ?_
  refine tr_region (zzx hnt rfl ?_ (call rfl rfl rfl rfl rfl rfl rfl hnt (h) (zzx hnt rfl ?_ (Lex.nil _)))) ?_
  · exact zzt
  · exact zzt
  repeat' (first | refine tr_seq ?_ | refine tr_block ?_ | refine tr_skip ?_ | refine tr_unroll 30 ?_ | refine rounds_go ?_ | refine tr_exit ?_ | refine reg (T := tab) tOk hnt rfl (by exact zzt) ?_ | refine regD (T := tab) tOk mixedR hnt rfl (by first | decide +kernel | kernel_rfl) (by exact zzt) ?_ | refine tr_cond rfl (fun hc => ?_) (fun hc => absurd (show true = false from hc) Bool.noConfusion) | refine tr_cond rfl (fun hc => absurd (show false = true from hc) Bool.noConfusion) (fun hc => ?_))
  have h := among_fn 40 grT (by decide)
  repeat' first | refine zzs ?_ | refine zzb ?_ | refine zzk ?_
  refine tr_region (zzx hnt rfl ?_ (call rfl rfl rfl rfl rfl rfl rfl hnt (h) (zzx hnt rfl ?_ (Lex.nil _)))) ?_
  · exact zzt
  · exact zzt
  repeat' (first | refine tr_seq ?_ | refine tr_block ?_ | refine tr_skip ?_ | refine tr_unroll 30 ?_ | refine rounds_go ?_ | refine tr_exit ?_ | refine reg (T := tab) tOk hnt rfl (by exact zzt) ?_ | refine regD (T := tab) tOk mixedR hnt rfl (by first | decide +kernel | kernel_rfl) (by exact zzt) ?_ | refine tr_cond rfl (fun hc => ?_) (fun hc => absurd (show true = false from hc) Bool.noConfusion) | refine tr_cond rfl (fun hc => absurd (show false = true from hc) Bool.noConfusion) (fun hc => ?_))
  exact tr_ret ⟨.inr rfl, _, _, rfl, zzp, rfl⟩
set_option maxRecDepth 10000 in
set_option maxHeartbeats 2000000 in
theorem tokens_g : FnG Tryd.prog 75 ([(6, spE)]) [.one (.e (eT [67, 79, 65, 76, 69, 83, 67, 69, 32, 40]))] (.one (.e (eTks [wdT [67, 79, 65, 76, 69, 83, 67, 69], sgT [40]]))) := by
  refine fn_introG (T := tab) tOk Tryd.func75 rfl (by kernel_rfl) (by simp [Tryd.ntmps75]) ?_
  intro X hX
  have hnt : X.nt = 25 := hX
  clear hX
  repeat' (first | refine tr_seq ?_ | refine tr_block ?_ | refine tr_skip ?_ | refine tr_unroll 30 ?_ | refine rounds_go ?_ | refine tr_exit ?_ | refine reg (T := tab) tOk hnt rfl (by exact zzt) ?_ | refine regD (T := tab) tOk mixedR hnt rfl (by first | decide +kernel | kernel_rfl) (by exact zzt) ?_ | refine tr_cond rfl (fun hc => ?_) (fun hc => absurd (show true = false from hc) Bool.noConfusion) | refine tr_cond rfl (fun hc => absurd (show false = true from hc) Bool.noConfusion) (fun hc => ?_))
  have h := fields_g
  repeat' first | refine zzs ?_ | refine zzb ?_ | refine zzk ?_
  refine tr_region (zzx hnt rfl ?_ (callV rfl rfl rfl rfl rfl rfl rfl hnt rfl (h) (zzx hnt rfl ?_ (Lex.nil _)))) ?_
  · exact zzt
  · exact zzt
  repeat' (first | refine tr_seq ?_ | refine tr_block ?_ | refine tr_skip ?_ | refine tr_unroll 30 ?_ | refine rounds_go ?_ | refine tr_exit ?_ | refine reg (T := tab) tOk hnt rfl (by exact zzt) ?_ | refine regD (T := tab) tOk mixedR hnt rfl (by first | decide +kernel | kernel_rfl) (by exact zzt) ?_ | refine tr_cond rfl (fun hc => ?_) (fun hc => absurd (show true = false from hc) Bool.noConfusion) | refine tr_cond rfl (fun hc => absurd (show false = true from hc) Bool.noConfusion) (fun hc => ?_))
  have h := among_fn 67 grT (by decide)
  repeat' first | refine zzs ?_ | refine zzb ?_ | refine zzk ?_
  refine tr_region (zzx hnt rfl ?_ (call rfl rfl rfl rfl rfl rfl rfl hnt (h) (zzx hnt rfl ?_ (Lex.nil _)))) ?_
  · exact zzt
  · exact zzt
  repeat' (first | refine tr_seq ?_ | refine tr_block ?_ | refine tr_skip ?_ | refine tr_unroll 30 ?_ | refine rounds_go ?_ | refine tr_exit ?_ | refine reg (T := tab) tOk hnt rfl (by exact zzt) ?_ | refine regD (T := tab) tOk mixedR hnt rfl (by first | decide +kernel | kernel_rfl) (by exact zzt) ?_ | refine tr_cond rfl (fun hc => ?_) (fun hc => absurd (show true = false from hc) Bool.noConfusion) | refine tr_cond rfl (fun hc => absurd (show false = true from hc) Bool.noConfusion) (fun hc => ?_))
  have h := among_fn 40 grT (by decide)
  repeat' first | refine zzs ?_ | refine zzb ?_ | refine zzk ?_
  refine tr_region (zzx hnt rfl ?_ (call rfl rfl rfl rfl rfl rfl rfl hnt (h) (zzx hnt rfl ?_ (Lex.nil _)))) ?_
  · exact zzt
  · exact zzt
  repeat' (first | refine tr_seq ?_ | refine tr_block ?_ | refine tr_skip ?_ | refine tr_unroll 30 ?_ | refine rounds_go ?_ | refine tr_exit ?_ | refine reg (T := tab) tOk hnt rfl (by exact zzt) ?_ | refine regD (T := tab) tOk mixedR hnt rfl (by first | decide +kernel | kernel_rfl) (by exact zzt) ?_ | refine tr_cond rfl (fun hc => ?_) (fun hc => absurd (show true = false from hc) Bool.noConfusion) | refine tr_cond rfl (fun hc => absurd (show false = true from hc) Bool.noConfusion) (fun hc => ?_))
  exact tr_ret ⟨.inr rfl, _, _, rfl, zzp, rfl⟩
set_option maxRecDepth 10000 in
set_option maxHeartbeats 2000000 in
theorem tokens_h : FnG Tryd.prog 75 ([(6, spE)]) [.one (.e (eT [44]))] (.one (.e (eTks [sgT [44]]))) := by
  refine fn_introG (T := tab) tOk Tryd.func75 rfl (by kernel_rfl) (by simp [Tryd.ntmps75]) ?_
  intro X hX
  have hnt : X.nt = 25 := hX
  clear hX
  repeat' (first | refine tr_seq ?_ | refine tr_block ?_ | refine tr_skip ?_ | refine tr_unroll 30 ?_ | refine rounds_go ?_ | refine tr_exit ?_ | refine reg (T := tab) tOk hnt rfl (by exact zzt) ?_ | refine regD (T := tab) tOk mixedR hnt rfl (by first | decide +kernel | kernel_rfl) (by exact zzt) ?_ | refine tr_cond rfl (fun hc => ?_) (fun hc => absurd (show true = false from hc) Bool.noConfusion) | refine tr_cond rfl (fun hc => absurd (show false = true from hc) Bool.noConfusion) (fun hc => ?_))
  have h := fields_h
  repeat' first | refine zzs ?_ | refine zzb ?_ | refine zzk ?_
  refine tr_region (zzx hnt rfl ?_ (callV rfl rfl rfl rfl rfl rfl rfl hnt rfl (h) (zzx hnt rfl ?_ (Lex.nil _)))) ?_
  · exact zzt
  · exact zzt
  repeat' (first | refine tr_seq ?_ | refine tr_block ?_ | refine tr_skip ?_ | refine tr_unroll 30 ?_ | refine rounds_go ?_ | refine tr_exit ?_ | refine reg (T := tab) tOk hnt rfl (by exact zzt) ?_ | refine regD (T := tab) tOk mixedR hnt rfl (by first | decide +kernel | kernel_rfl) (by exact zzt) ?_ | refine tr_cond rfl (fun hc => ?_) (fun hc => absurd (show true = false from hc) Bool.noConfusion) | refine tr_cond rfl (fun hc => absurd (show false = true from hc) Bool.noConfusion) (fun hc => ?_))
  have h := among_fn 44 grT (by decide)
  repeat' first | refine zzs ?_ | refine zzb ?_ | refine zzk ?_
  refine tr_region (zzx hnt rfl ?_ (call rfl rfl rfl rfl rfl rfl rfl hnt (h) (zzx hnt rfl ?_ (Lex.nil _)))) ?_
  · exact zzt
  · exact zzt
  repeat' (first | refine tr_seq ?_ | refine tr_block ?_ | refine tr_skip ?_ | refine tr_unroll 30 ?_ | refine rounds_go ?_ | refine tr_exit ?_ | refine reg (T := tab) tOk hnt rfl (by exact zzt) ?_ | refine regD (T := tab) tOk mixedR hnt rfl (by first | decide +kernel | kernel_rfl) (by exact zzt) ?_ | refine tr_cond rfl (fun hc => ?_) (fun hc => absurd (show true = false from hc) Bool.noConfusion) | refine tr_cond rfl (fun hc => absurd (show false = true from hc) Bool.noConfusion) (fun hc => ?_))
  exact tr_ret ⟨.inr rfl, _, _, rfl, zzp, rfl⟩
set_option maxRecDepth 10000 in
set_option maxHeartbeats 2000000 in
theorem tokens_i : FnG Tryd.prog 75 ([(6, spE)]) [.one (.e (eT [78, 85, 76, 76]))] (.one (.e (eTks [wdT [78, 85, 76, 76]]))) := by
  refine fn_introG (T := tab) tOk Tryd.func75 rfl (by kernel_rfl) (by simp [Tryd.ntmps75]) ?_
  intro X hX
  have hnt : X.nt = 25 := hX
  clear hX
  repeat' (first | refine tr_seq ?_ | refine tr_block ?_ | refine tr_skip ?_ | refine tr_unroll 30 ?_ | refine rounds_go ?_ | refine tr_exit ?_ | refine reg (T := tab) tOk hnt rfl (by exact zzt) ?_ | refine regD (T := tab) tOk mixedR hnt rfl (by first | decide +kernel | kernel_rfl) (by exact zzt) ?_ | refine tr_cond rfl (fun hc => ?_) (fun hc => absurd (show true = false from hc) Bool.noConfusion) | refine tr_cond rfl (fun hc => absurd (show false = true from hc) Bool.noConfusion) (fun hc => ?_))
  have h := fields_i
  repeat' first | refine zzs ?_ | refine zzb ?_ | refine zzk ?_
  refine tr_region (zzx hnt rfl ?_ (callV rfl rfl rfl rfl rfl rfl rfl hnt rfl (h) (zzx hnt rfl ?_ (Lex.nil _)))) ?_
  · exact zzt
  · exact zzt
  repeat' (first | refine tr_seq ?_ | refine tr_block ?_ | refine tr_skip ?_ | refine tr_unroll 30 ?_ | refine rounds_go ?_ | refine tr_exit ?_ | refine reg (T := tab) tOk hnt rfl (by exact zzt) ?_ | refine regD (T := tab) tOk mixedR hnt rfl (by first | decide +kernel | kernel_rfl) (by exact zzt) ?_ | refine tr_cond rfl (fun hc => ?_) (fun hc => absurd (show true = false from hc) Bool.noConfusion) | refine tr_cond rfl (fun hc => absurd (show false = true from hc) Bool.noConfusion) (fun hc => ?_))
  have h := among_fn 78 grT (by decide)
  repeat' first | refine zzs ?_ | refine zzb ?_ | refine zzk ?_
  refine tr_region (zzx hnt rfl ?_ (call rfl rfl rfl rfl rfl rfl rfl hnt (h) (zzx hnt rfl ?_ (Lex.nil _)))) ?_
  · exact zzt
  · exact zzt
  repeat' (first | refine tr_seq ?_ | refine tr_block ?_ | refine tr_skip ?_ | refine tr_unroll 30 ?_ | refine rounds_go ?_ | refine tr_exit ?_ | refine reg (T := tab) tOk hnt rfl (by exact zzt) ?_ | refine regD (T := tab) tOk mixedR hnt rfl (by first | decide +kernel | kernel_rfl) (by exact zzt) ?_ | refine tr_cond rfl (fun hc => ?_) (fun hc => absurd (show true = false from hc) Bool.noConfusion) | refine tr_cond rfl (fun hc => absurd (show false = true from hc) Bool.noConfusion) (fun hc => ?_))
  exact tr_ret ⟨.inr rfl, _, _, rfl, zzp, rfl⟩
set_option maxRecDepth 10000 in
set_option maxHeartbeats 2000000 in
theorem tokens_j : FnG Tryd.prog 75 ([(6, spE)]) [.one (.e (eT [70, 65, 76, 83, 69]))] (.one (.e (eTks [wdT [70, 65, 76, 83, 69]]))) := by
  refine fn_introG (T := tab) tOk Tryd.func75 rfl (by kernel_rfl) (by simp [Tryd.ntmps75]) ?_
  intro X hX
  have hnt : X.nt = 25 := hX
  clear hX
  repeat' (first | refine tr_seq ?_ | refine tr_block ?_ | refine tr_skip ?_ | refine tr_unroll 30 ?_ | refine rounds_go ?_ | refine tr_exit ?_ | refine reg (T := tab) tOk hnt rfl (by exact zzt) ?_ | refine regD (T := tab) tOk mixedR hnt rfl (by first | decide +kernel | kernel_rfl) (by exact zzt) ?_ | refine tr_cond rfl (fun hc => ?_) (fun hc => absurd (show true = false from hc) Bool.noConfusion) | refine tr_cond rfl (fun hc => absurd (show false = true from hc) Bool.noConfusion) (fun hc => ?_))
  have h := fields_j
  repeat' first | refine zzs ?_ | refine zzb ?_ | refine zzk ?_
  refine tr_region (zzx hnt rfl ?_ (callV rfl rfl rfl rfl rfl rfl rfl hnt rfl (h) (zzx hnt rfl ?_ (Lex.nil _)))) ?_
  · exact zzt
  · exact zzt
  repeat' (first | refine tr_seq ?_ | refine tr_block ?_ | refine tr_skip ?_ | refine tr_unroll 30 ?_ | refine rounds_go ?_ | refine tr_exit ?_ | refine reg (T := tab) tOk hnt rfl (by exact zzt) ?_ | refine regD (T := tab) tOk mixedR hnt rfl (by first | decide +kernel | kernel_rfl) (by exact zzt) ?_ | refine tr_cond rfl (fun hc => ?_) (fun hc => absurd (show true = false from hc) Bool.noConfusion) | refine tr_cond rfl (fun hc => absurd (show false = true from hc) Bool.noConfusion) (fun hc => ?_))
  have h := among_fn 70 grT (by decide)
  repeat' first | refine zzs ?_ | refine zzb ?_ | refine zzk ?_
  refine tr_region (zzx hnt rfl ?_ (call rfl rfl rfl rfl rfl rfl rfl hnt (h) (zzx hnt rfl ?_ (Lex.nil _)))) ?_
  · exact zzt
  · exact zzt
  repeat' (first | refine tr_seq ?_ | refine tr_block ?_ | refine tr_skip ?_ | refine tr_unroll 30 ?_ | refine rounds_go ?_ | refine tr_exit ?_ | refine reg (T := tab) tOk hnt rfl (by exact zzt) ?_ | refine regD (T := tab) tOk mixedR hnt rfl (by first | decide +kernel | kernel_rfl) (by exact zzt) ?_ | refine tr_cond rfl (fun hc => ?_) (fun hc => absurd (show true = false from hc) Bool.noConfusion) | refine tr_cond rfl (fun hc => absurd (show false = true from hc) Bool.noConfusion) (fun hc => ?_))
  exact tr_ret ⟨.inr rfl, _, _, rfl, zzp, rfl⟩
set_option maxRecDepth 10000 in
set_option maxHeartbeats 2000000 in
theorem tokens_k : FnG Tryd.prog 75 ([(6, spE)]) [.one (.e (eT [84, 82, 85, 69]))] (.one (.e (eTks [wdT [84, 82, 85, 69]]))) := by
  refine fn_introG (T := tab) tOk Tryd.func75 rfl (by kernel_rfl) (by simp [Tryd.ntmps75]) ?_
  intro X hX
  have hnt : X.nt = 25 := hX
  clear hX
  repeat' (first | refine tr_seq ?_ | refine tr_block ?_ | refine tr_skip ?_ | refine tr_unroll 30 ?_ | refine rounds_go ?_ | refine tr_exit ?_ | refine reg (T := tab) tOk hnt rfl (by exact zzt) ?_ | refine regD (T := tab) tOk mixedR hnt rfl (by first | decide +kernel | kernel_rfl) (by exact zzt) ?_ | refine tr_cond rfl (fun hc => ?_) (fun hc => absurd (show true = false from hc) Bool.noConfusion) | refine tr_cond rfl (fun hc => absurd (show false = true from hc) Bool.noConfusion) (fun hc => ?_))
  have h := fields_k
  repeat' first | refine zzs ?_ | refine zzb ?_ | refine zzk ?_
  refine tr_region (zzx hnt rfl ?_ (callV rfl rfl rfl rfl rfl rfl rfl hnt rfl (h) (zzx hnt rfl ?_ (Lex.nil _)))) ?_
  · exact zzt
  · exact zzt
  repeat' (first | refine tr_seq ?_ | refine tr_block ?_ | refine tr_skip ?_ | refine tr_unroll 30 ?_ | refine rounds_go ?_ | refine tr_exit ?_ | refine reg (T := tab) tOk hnt rfl (by exact zzt) ?_ | refine regD (T := tab) tOk mixedR hnt rfl (by first | decide +kernel | kernel_rfl) (by exact zzt) ?_ | refine tr_cond rfl (fun hc => ?_) (fun hc => absurd (show true = false from hc) Bool.noConfusion) | refine tr_cond rfl (fun hc => absurd (show false = true from hc) Bool.noConfusion) (fun hc => ?_))
  have h := among_fn 84 grT (by decide)
  repeat' first | refine zzs ?_ | refine zzb ?_ | refine zzk ?_
  refine tr_region (zzx hnt rfl ?_ (call rfl rfl rfl rfl rfl rfl rfl hnt (h) (zzx hnt rfl ?_ (Lex.nil _)))) ?_
  · exact zzt
  · exact zzt
  repeat' (first | refine tr_seq ?_ | refine tr_block ?_ | refine tr_skip ?_ | refine tr_unroll 30 ?_ | refine rounds_go ?_ | refine tr_exit ?_ | refine reg (T := tab) tOk hnt rfl (by exact zzt) ?_ | refine regD (T := tab) tOk mixedR hnt rfl (by first | decide +kernel | kernel_rfl) (by exact zzt) ?_ | refine tr_cond rfl (fun hc => ?_) (fun hc => absurd (show true = false from hc) Bool.noConfusion) | refine tr_cond rfl (fun hc => absurd (show false = true from hc) Bool.noConfusion) (fun hc => ?_))
  exact tr_ret ⟨.inr rfl, _, _, rfl, zzp, rfl⟩
end Go.Proofs.YthnadkafegmacaaDoor
