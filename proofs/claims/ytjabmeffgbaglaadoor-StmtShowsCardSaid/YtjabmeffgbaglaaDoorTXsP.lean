/- The document's parts of an expression shown. No condition. -/
import Derived.Test.YtjabmeffgbaglaaDoorTXsD
namespace Go.Proofs.YtjabmeffgbaglaaDoor
open Go Go.RowKit Go.Proofs.YtjabmeffgbaglaaDoor.Ab
set_option linter.unusedSimpArgs false
set_option linter.unusedVariables false
set_option maxRecDepth 10000 in
set_option maxHeartbeats 2000000 in
theorem binds_fn (op : Int) (h1 : 1 ≤ op) (h2 : op ≤ 20) : FnD Tryd.prog 68 [.one (.e (eI op))] (.one (.e (eI (lvF op - 1)))) := by
 refine fn_intro (T := tab) tOk Tryd.func68 rfl (by kernel_rfl) (by simp [Tryd.ntmps68]) ?_
 intro X hX
 have hnt : X.nt = 34 := hX
 clear hX
 rcases (by omega : op = 1 ∨ op = 2 ∨ op = 3 ∨ op = 4 ∨ op = 5 ∨ op = 6 ∨ op = 7 ∨ op = 8 ∨ op = 9 ∨ op = 10 ∨ op = 11 ∨ op = 12 ∨ op = 13 ∨ op = 14 ∨ op = 15 ∨ op = 16 ∨ op = 17 ∨ op = 18 ∨ op = 19 ∨ op = 20) with rfl | rfl | rfl | rfl | rfl | rfl | rfl | rfl | rfl | rfl | rfl | rfl | rfl | rfl | rfl | rfl | rfl | rfl | rfl | rfl
 all_goals repeat' (first | refine tr_seq ?_ | refine tr_block ?_ | refine tr_skip ?_ | refine tr_unroll 30 ?_ | refine rounds_go ?_ | refine tr_exit ?_ | refine reg (T := tab) tOk hnt rfl (by exact zzt) ?_ | refine regD (T := tab) tOk mixedR hnt rfl (by first | decide +kernel | kernel_rfl) (by exact zzt) ?_ | refine tr_cond rfl (fun hc => ?_) (fun hc => absurd (show true = false from hc) Bool.noConfusion) | refine tr_cond rfl (fun hc => absurd (show false = true from hc) Bool.noConfusion) (fun hc => ?_))
 all_goals exact tr_ret ⟨.inr rfl, _, _, rfl, trivial, rfl⟩
set_option maxRecDepth 10000 in
set_option maxHeartbeats 2000000 in
theorem markOf_fn (op : Int) (h1 : (5 ≤ op ∧ op ≤ 16) ∨ op = 19) : FnG Tryd.prog 70 ([(6, mkE)]) [.one (.e (eI op))] (.agg (.es (eTok (mkS op)))) := by
 refine fn_introG (T := tab) tOk Tryd.func70 rfl (by kernel_rfl) (by simp [Tryd.ntmps70]) ?_
 intro X hX
 have hnt : X.nt = 14 := hX
 clear hX
 rcases (by omega : op = 5 ∨ op = 6 ∨ op = 7 ∨ op = 8 ∨ op = 9 ∨ op = 10 ∨ op = 11 ∨ op = 12 ∨ op = 13 ∨ op = 14 ∨ op = 15 ∨ op = 16 ∨ op = 19) with rfl | rfl | rfl | rfl | rfl | rfl | rfl | rfl | rfl | rfl | rfl | rfl | rfl
 ·repeat' (first | refine tr_seq ?_ | refine tr_block ?_ | refine tr_skip ?_ | refine tr_unroll 30 ?_ | refine rounds_go ?_ | refine tr_exit ?_ | refine reg (T := tab) tOk hnt rfl (by exact zzt) ?_ | refine regD (T := tab) tOk mixedR hnt rfl (by first | decide +kernel | kernel_rfl) (by exact zzt) ?_ | refine tr_cond rfl (fun hc => ?_) (fun hc => absurd (show true = false from hc) Bool.noConfusion) | refine tr_cond rfl (fun hc => absurd (show false = true from hc) Bool.noConfusion) (fun hc => ?_))
  have h := among_fn 43 grT (by decide)
  repeat' first | refine zzs ?_ | refine zzb ?_ | refine zzk ?_
  refine tr_region (zzx hnt rfl ?_ (call rfl rfl rfl rfl rfl rfl rfl hnt (h) (zzx hnt rfl ?_ (Lex.nil _)))) ?_
  ·exact zzt
  ·exact zzt
  repeat' (first | refine tr_seq ?_ | refine tr_block ?_ | refine tr_skip ?_ | refine tr_unroll 30 ?_ | refine rounds_go ?_ | refine tr_exit ?_ | refine reg (T := tab) tOk hnt rfl (by exact zzt) ?_ | refine regD (T := tab) tOk mixedR hnt rfl (by first | decide +kernel | kernel_rfl) (by exact zzt) ?_ | refine tr_cond rfl (fun hc => ?_) (fun hc => absurd (show true = false from hc) Bool.noConfusion) | refine tr_cond rfl (fun hc => absurd (show false = true from hc) Bool.noConfusion) (fun hc => ?_))
  exact tr_ret ⟨.inr rfl, _, _, rfl, zzp, rfl⟩
 ·repeat' (first | refine tr_seq ?_ | refine tr_block ?_ | refine tr_skip ?_ | refine tr_unroll 30 ?_ | refine rounds_go ?_ | refine tr_exit ?_ | refine reg (T := tab) tOk hnt rfl (by exact zzt) ?_ | refine regD (T := tab) tOk mixedR hnt rfl (by first | decide +kernel | kernel_rfl) (by exact zzt) ?_ | refine tr_cond rfl (fun hc => ?_) (fun hc => absurd (show true = false from hc) Bool.noConfusion) | refine tr_cond rfl (fun hc => absurd (show false = true from hc) Bool.noConfusion) (fun hc => ?_))
  have h := among_fn 45 grT (by decide)
  repeat' first | refine zzs ?_ | refine zzb ?_ | refine zzk ?_
  refine tr_region (zzx hnt rfl ?_ (call rfl rfl rfl rfl rfl rfl rfl hnt (h) (zzx hnt rfl ?_ (Lex.nil _)))) ?_
  ·exact zzt
  ·exact zzt
  repeat' (first | refine tr_seq ?_ | refine tr_block ?_ | refine tr_skip ?_ | refine tr_unroll 30 ?_ | refine rounds_go ?_ | refine tr_exit ?_ | refine reg (T := tab) tOk hnt rfl (by exact zzt) ?_ | refine regD (T := tab) tOk mixedR hnt rfl (by first | decide +kernel | kernel_rfl) (by exact zzt) ?_ | refine tr_cond rfl (fun hc => ?_) (fun hc => absurd (show true = false from hc) Bool.noConfusion) | refine tr_cond rfl (fun hc => absurd (show false = true from hc) Bool.noConfusion) (fun hc => ?_))
  exact tr_ret ⟨.inr rfl, _, _, rfl, zzp, rfl⟩
 ·repeat' (first | refine tr_seq ?_ | refine tr_block ?_ | refine tr_skip ?_ | refine tr_unroll 30 ?_ | refine rounds_go ?_ | refine tr_exit ?_ | refine reg (T := tab) tOk hnt rfl (by exact zzt) ?_ | refine regD (T := tab) tOk mixedR hnt rfl (by first | decide +kernel | kernel_rfl) (by exact zzt) ?_ | refine tr_cond rfl (fun hc => ?_) (fun hc => absurd (show true = false from hc) Bool.noConfusion) | refine tr_cond rfl (fun hc => absurd (show false = true from hc) Bool.noConfusion) (fun hc => ?_))
  have h := among_fn 42 grT (by decide)
  repeat' first | refine zzs ?_ | refine zzb ?_ | refine zzk ?_
  refine tr_region (zzx hnt rfl ?_ (call rfl rfl rfl rfl rfl rfl rfl hnt (h) (zzx hnt rfl ?_ (Lex.nil _)))) ?_
  ·exact zzt
  ·exact zzt
  repeat' (first | refine tr_seq ?_ | refine tr_block ?_ | refine tr_skip ?_ | refine tr_unroll 30 ?_ | refine rounds_go ?_ | refine tr_exit ?_ | refine reg (T := tab) tOk hnt rfl (by exact zzt) ?_ | refine regD (T := tab) tOk mixedR hnt rfl (by first | decide +kernel | kernel_rfl) (by exact zzt) ?_ | refine tr_cond rfl (fun hc => ?_) (fun hc => absurd (show true = false from hc) Bool.noConfusion) | refine tr_cond rfl (fun hc => absurd (show false = true from hc) Bool.noConfusion) (fun hc => ?_))
  exact tr_ret ⟨.inr rfl, _, _, rfl, zzp, rfl⟩
 ·repeat' (first | refine tr_seq ?_ | refine tr_block ?_ | refine tr_skip ?_ | refine tr_unroll 30 ?_ | refine rounds_go ?_ | refine tr_exit ?_ | refine reg (T := tab) tOk hnt rfl (by exact zzt) ?_ | refine regD (T := tab) tOk mixedR hnt rfl (by first | decide +kernel | kernel_rfl) (by exact zzt) ?_ | refine tr_cond rfl (fun hc => ?_) (fun hc => absurd (show true = false from hc) Bool.noConfusion) | refine tr_cond rfl (fun hc => absurd (show false = true from hc) Bool.noConfusion) (fun hc => ?_))
  have h := among_fn 47 grT (by decide)
  repeat' first | refine zzs ?_ | refine zzb ?_ | refine zzk ?_
  refine tr_region (zzx hnt rfl ?_ (call rfl rfl rfl rfl rfl rfl rfl hnt (h) (zzx hnt rfl ?_ (Lex.nil _)))) ?_
  ·exact zzt
  ·exact zzt
  repeat' (first | refine tr_seq ?_ | refine tr_block ?_ | refine tr_skip ?_ | refine tr_unroll 30 ?_ | refine rounds_go ?_ | refine tr_exit ?_ | refine reg (T := tab) tOk hnt rfl (by exact zzt) ?_ | refine regD (T := tab) tOk mixedR hnt rfl (by first | decide +kernel | kernel_rfl) (by exact zzt) ?_ | refine tr_cond rfl (fun hc => ?_) (fun hc => absurd (show true = false from hc) Bool.noConfusion) | refine tr_cond rfl (fun hc => absurd (show false = true from hc) Bool.noConfusion) (fun hc => ?_))
  exact tr_ret ⟨.inr rfl, _, _, rfl, zzp, rfl⟩
 ·repeat' (first | refine tr_seq ?_ | refine tr_block ?_ | refine tr_skip ?_ | refine tr_unroll 30 ?_ | refine rounds_go ?_ | refine tr_exit ?_ | refine reg (T := tab) tOk hnt rfl (by exact zzt) ?_ | refine regD (T := tab) tOk mixedR hnt rfl (by first | decide +kernel | kernel_rfl) (by exact zzt) ?_ | refine tr_cond rfl (fun hc => ?_) (fun hc => absurd (show true = false from hc) Bool.noConfusion) | refine tr_cond rfl (fun hc => absurd (show false = true from hc) Bool.noConfusion) (fun hc => ?_))
  have h := among_fn 61 grT (by decide)
  repeat' first | refine zzs ?_ | refine zzb ?_ | refine zzk ?_
  refine tr_region (zzx hnt rfl ?_ (call rfl rfl rfl rfl rfl rfl rfl hnt (h) (zzx hnt rfl ?_ (Lex.nil _)))) ?_
  ·exact zzt
  ·exact zzt
  repeat' (first | refine tr_seq ?_ | refine tr_block ?_ | refine tr_skip ?_ | refine tr_unroll 30 ?_ | refine rounds_go ?_ | refine tr_exit ?_ | refine reg (T := tab) tOk hnt rfl (by exact zzt) ?_ | refine regD (T := tab) tOk mixedR hnt rfl (by first | decide +kernel | kernel_rfl) (by exact zzt) ?_ | refine tr_cond rfl (fun hc => ?_) (fun hc => absurd (show true = false from hc) Bool.noConfusion) | refine tr_cond rfl (fun hc => absurd (show false = true from hc) Bool.noConfusion) (fun hc => ?_))
  exact tr_ret ⟨.inr rfl, _, _, rfl, zzp, rfl⟩
 ·repeat' (first | refine tr_seq ?_ | refine tr_block ?_ | refine tr_skip ?_ | refine tr_unroll 30 ?_ | refine rounds_go ?_ | refine tr_exit ?_ | refine reg (T := tab) tOk hnt rfl (by exact zzt) ?_ | refine regD (T := tab) tOk mixedR hnt rfl (by first | decide +kernel | kernel_rfl) (by exact zzt) ?_ | refine tr_cond rfl (fun hc => ?_) (fun hc => absurd (show true = false from hc) Bool.noConfusion) | refine tr_cond rfl (fun hc => absurd (show false = true from hc) Bool.noConfusion) (fun hc => ?_))
  have h := among_fn 60 grT (by decide)
  repeat' first | refine zzs ?_ | refine zzb ?_ | refine zzk ?_
  refine tr_region (zzx hnt rfl ?_ (call rfl rfl rfl rfl rfl rfl rfl hnt (h) (zzx hnt rfl ?_ (Lex.nil _)))) ?_
  ·exact zzt
  ·exact zzt
  repeat' (first | refine tr_seq ?_ | refine tr_block ?_ | refine tr_skip ?_ | refine tr_unroll 30 ?_ | refine rounds_go ?_ | refine tr_exit ?_ | refine reg (T := tab) tOk hnt rfl (by exact zzt) ?_ | refine regD (T := tab) tOk mixedR hnt rfl (by first | decide +kernel | kernel_rfl) (by exact zzt) ?_ | refine tr_cond rfl (fun hc => ?_) (fun hc => absurd (show true = false from hc) Bool.noConfusion) | refine tr_cond rfl (fun hc => absurd (show false = true from hc) Bool.noConfusion) (fun hc => ?_))
  exact tr_ret ⟨.inr rfl, _, _, rfl, zzp, rfl⟩
 ·repeat' (first | refine tr_seq ?_ | refine tr_block ?_ | refine tr_skip ?_ | refine tr_unroll 30 ?_ | refine rounds_go ?_ | refine tr_exit ?_ | refine reg (T := tab) tOk hnt rfl (by exact zzt) ?_ | refine regD (T := tab) tOk mixedR hnt rfl (by first | decide +kernel | kernel_rfl) (by exact zzt) ?_ | refine tr_cond rfl (fun hc => ?_) (fun hc => absurd (show true = false from hc) Bool.noConfusion) | refine tr_cond rfl (fun hc => absurd (show false = true from hc) Bool.noConfusion) (fun hc => ?_))
  have h := among_fn 60 grT (by decide)
  repeat' first | refine zzs ?_ | refine zzb ?_ | refine zzk ?_
  refine tr_region (zzx hnt rfl ?_ (call rfl rfl rfl rfl rfl rfl rfl hnt (h) (zzx hnt rfl ?_ (Lex.nil _)))) ?_
  ·exact zzt
  ·exact zzt
  repeat' (first | refine tr_seq ?_ | refine tr_block ?_ | refine tr_skip ?_ | refine tr_unroll 30 ?_ | refine rounds_go ?_ | refine tr_exit ?_ | refine reg (T := tab) tOk hnt rfl (by exact zzt) ?_ | refine regD (T := tab) tOk mixedR hnt rfl (by first | decide +kernel | kernel_rfl) (by exact zzt) ?_ | refine tr_cond rfl (fun hc => ?_) (fun hc => absurd (show true = false from hc) Bool.noConfusion) | refine tr_cond rfl (fun hc => absurd (show false = true from hc) Bool.noConfusion) (fun hc => ?_))
  exact tr_ret ⟨.inr rfl, _, _, rfl, zzp, rfl⟩
 ·repeat' (first | refine tr_seq ?_ | refine tr_block ?_ | refine tr_skip ?_ | refine tr_unroll 30 ?_ | refine rounds_go ?_ | refine tr_exit ?_ | refine reg (T := tab) tOk hnt rfl (by exact zzt) ?_ | refine regD (T := tab) tOk mixedR hnt rfl (by first | decide +kernel | kernel_rfl) (by exact zzt) ?_ | refine tr_cond rfl (fun hc => ?_) (fun hc => absurd (show true = false from hc) Bool.noConfusion) | refine tr_cond rfl (fun hc => absurd (show false = true from hc) Bool.noConfusion) (fun hc => ?_))
  have h := among_fn 60 grT (by decide)
  repeat' first | refine zzs ?_ | refine zzb ?_ | refine zzk ?_
  refine tr_region (zzx hnt rfl ?_ (call rfl rfl rfl rfl rfl rfl rfl hnt (h) (zzx hnt rfl ?_ (Lex.nil _)))) ?_
  ·exact zzt
  ·exact zzt
  repeat' (first | refine tr_seq ?_ | refine tr_block ?_ | refine tr_skip ?_ | refine tr_unroll 30 ?_ | refine rounds_go ?_ | refine tr_exit ?_ | refine reg (T := tab) tOk hnt rfl (by exact zzt) ?_ | refine regD (T := tab) tOk mixedR hnt rfl (by first | decide +kernel | kernel_rfl) (by exact zzt) ?_ | refine tr_cond rfl (fun hc => ?_) (fun hc => absurd (show true = false from hc) Bool.noConfusion) | refine tr_cond rfl (fun hc => absurd (show false = true from hc) Bool.noConfusion) (fun hc => ?_))
  exact tr_ret ⟨.inr rfl, _, _, rfl, zzp, rfl⟩
 ·repeat' (first | refine tr_seq ?_ | refine tr_block ?_ | refine tr_skip ?_ | refine tr_unroll 30 ?_ | refine rounds_go ?_ | refine tr_exit ?_ | refine reg (T := tab) tOk hnt rfl (by exact zzt) ?_ | refine regD (T := tab) tOk mixedR hnt rfl (by first | decide +kernel | kernel_rfl) (by exact zzt) ?_ | refine tr_cond rfl (fun hc => ?_) (fun hc => absurd (show true = false from hc) Bool.noConfusion) | refine tr_cond rfl (fun hc => absurd (show false = true from hc) Bool.noConfusion) (fun hc => ?_))
  have h := among_fn 62 grT (by decide)
  repeat' first | refine zzs ?_ | refine zzb ?_ | refine zzk ?_
  refine tr_region (zzx hnt rfl ?_ (call rfl rfl rfl rfl rfl rfl rfl hnt (h) (zzx hnt rfl ?_ (Lex.nil _)))) ?_
  ·exact zzt
  ·exact zzt
  repeat' (first | refine tr_seq ?_ | refine tr_block ?_ | refine tr_skip ?_ | refine tr_unroll 30 ?_ | refine rounds_go ?_ | refine tr_exit ?_ | refine reg (T := tab) tOk hnt rfl (by exact zzt) ?_ | refine regD (T := tab) tOk mixedR hnt rfl (by first | decide +kernel | kernel_rfl) (by exact zzt) ?_ | refine tr_cond rfl (fun hc => ?_) (fun hc => absurd (show true = false from hc) Bool.noConfusion) | refine tr_cond rfl (fun hc => absurd (show false = true from hc) Bool.noConfusion) (fun hc => ?_))
  exact tr_ret ⟨.inr rfl, _, _, rfl, zzp, rfl⟩
 ·repeat' (first | refine tr_seq ?_ | refine tr_block ?_ | refine tr_skip ?_ | refine tr_unroll 30 ?_ | refine rounds_go ?_ | refine tr_exit ?_ | refine reg (T := tab) tOk hnt rfl (by exact zzt) ?_ | refine regD (T := tab) tOk mixedR hnt rfl (by first | decide +kernel | kernel_rfl) (by exact zzt) ?_ | refine tr_cond rfl (fun hc => ?_) (fun hc => absurd (show true = false from hc) Bool.noConfusion) | refine tr_cond rfl (fun hc => absurd (show false = true from hc) Bool.noConfusion) (fun hc => ?_))
  have h := among_fn 62 grT (by decide)
  repeat' first | refine zzs ?_ | refine zzb ?_ | refine zzk ?_
  refine tr_region (zzx hnt rfl ?_ (call rfl rfl rfl rfl rfl rfl rfl hnt (h) (zzx hnt rfl ?_ (Lex.nil _)))) ?_
  ·exact zzt
  ·exact zzt
  repeat' (first | refine tr_seq ?_ | refine tr_block ?_ | refine tr_skip ?_ | refine tr_unroll 30 ?_ | refine rounds_go ?_ | refine tr_exit ?_ | refine reg (T := tab) tOk hnt rfl (by exact zzt) ?_ | refine regD (T := tab) tOk mixedR hnt rfl (by first | decide +kernel | kernel_rfl) (by exact zzt) ?_ | refine tr_cond rfl (fun hc => ?_) (fun hc => absurd (show true = false from hc) Bool.noConfusion) | refine tr_cond rfl (fun hc => absurd (show false = true from hc) Bool.noConfusion) (fun hc => ?_))
  exact tr_ret ⟨.inr rfl, _, _, rfl, zzp, rfl⟩
 ·repeat' (first | refine tr_seq ?_ | refine tr_block ?_ | refine tr_skip ?_ | refine tr_unroll 30 ?_ | refine rounds_go ?_ | refine tr_exit ?_ | refine reg (T := tab) tOk hnt rfl (by exact zzt) ?_ | refine regD (T := tab) tOk mixedR hnt rfl (by first | decide +kernel | kernel_rfl) (by exact zzt) ?_ | refine tr_cond rfl (fun hc => ?_) (fun hc => absurd (show true = false from hc) Bool.noConfusion) | refine tr_cond rfl (fun hc => absurd (show false = true from hc) Bool.noConfusion) (fun hc => ?_))
  have h := among_fn 65 grT (by decide)
  repeat' first | refine zzs ?_ | refine zzb ?_ | refine zzk ?_
  refine tr_region (zzx hnt rfl ?_ (call rfl rfl rfl rfl rfl rfl rfl hnt (h) (zzx hnt rfl ?_ (Lex.nil _)))) ?_
  ·exact zzt
  ·exact zzt
  repeat' (first | refine tr_seq ?_ | refine tr_block ?_ | refine tr_skip ?_ | refine tr_unroll 30 ?_ | refine rounds_go ?_ | refine tr_exit ?_ | refine reg (T := tab) tOk hnt rfl (by exact zzt) ?_ | refine regD (T := tab) tOk mixedR hnt rfl (by first | decide +kernel | kernel_rfl) (by exact zzt) ?_ | refine tr_cond rfl (fun hc => ?_) (fun hc => absurd (show true = false from hc) Bool.noConfusion) | refine tr_cond rfl (fun hc => absurd (show false = true from hc) Bool.noConfusion) (fun hc => ?_))
  exact tr_ret ⟨.inr rfl, _, _, rfl, zzp, rfl⟩
 ·repeat' (first | refine tr_seq ?_ | refine tr_block ?_ | refine tr_skip ?_ | refine tr_unroll 30 ?_ | refine rounds_go ?_ | refine tr_exit ?_ | refine reg (T := tab) tOk hnt rfl (by exact zzt) ?_ | refine regD (T := tab) tOk mixedR hnt rfl (by first | decide +kernel | kernel_rfl) (by exact zzt) ?_ | refine tr_cond rfl (fun hc => ?_) (fun hc => absurd (show true = false from hc) Bool.noConfusion) | refine tr_cond rfl (fun hc => absurd (show false = true from hc) Bool.noConfusion) (fun hc => ?_))
  have h := among_fn 79 grT (by decide)
  repeat' first | refine zzs ?_ | refine zzb ?_ | refine zzk ?_
  refine tr_region (zzx hnt rfl ?_ (call rfl rfl rfl rfl rfl rfl rfl hnt (h) (zzx hnt rfl ?_ (Lex.nil _)))) ?_
  ·exact zzt
  ·exact zzt
  repeat' (first | refine tr_seq ?_ | refine tr_block ?_ | refine tr_skip ?_ | refine tr_unroll 30 ?_ | refine rounds_go ?_ | refine tr_exit ?_ | refine reg (T := tab) tOk hnt rfl (by exact zzt) ?_ | refine regD (T := tab) tOk mixedR hnt rfl (by first | decide +kernel | kernel_rfl) (by exact zzt) ?_ | refine tr_cond rfl (fun hc => ?_) (fun hc => absurd (show true = false from hc) Bool.noConfusion) | refine tr_cond rfl (fun hc => absurd (show false = true from hc) Bool.noConfusion) (fun hc => ?_))
  exact tr_ret ⟨.inr rfl, _, _, rfl, zzp, rfl⟩
 ·repeat' (first | refine tr_seq ?_ | refine tr_block ?_ | refine tr_skip ?_ | refine tr_unroll 30 ?_ | refine rounds_go ?_ | refine tr_exit ?_ | refine reg (T := tab) tOk hnt rfl (by exact zzt) ?_ | refine regD (T := tab) tOk mixedR hnt rfl (by first | decide +kernel | kernel_rfl) (by exact zzt) ?_ | refine tr_cond rfl (fun hc => ?_) (fun hc => absurd (show true = false from hc) Bool.noConfusion) | refine tr_cond rfl (fun hc => absurd (show false = true from hc) Bool.noConfusion) (fun hc => ?_))
  have h := among_fn 124 grT (by decide)
  repeat' first | refine zzs ?_ | refine zzb ?_ | refine zzk ?_
  refine tr_region (zzx hnt rfl ?_ (call rfl rfl rfl rfl rfl rfl rfl hnt (h) (zzx hnt rfl ?_ (Lex.nil _)))) ?_
  ·exact zzt
  ·exact zzt
  repeat' (first | refine tr_seq ?_ | refine tr_block ?_ | refine tr_skip ?_ | refine tr_unroll 30 ?_ | refine rounds_go ?_ | refine tr_exit ?_ | refine reg (T := tab) tOk hnt rfl (by exact zzt) ?_ | refine regD (T := tab) tOk mixedR hnt rfl (by first | decide +kernel | kernel_rfl) (by exact zzt) ?_ | refine tr_cond rfl (fun hc => ?_) (fun hc => absurd (show true = false from hc) Bool.noConfusion) | refine tr_cond rfl (fun hc => absurd (show false = true from hc) Bool.noConfusion) (fun hc => ?_))
  exact tr_ret ⟨.inr rfl, _, _, rfl, zzp, rfl⟩
end Go.Proofs.YtjabmeffgbaglaaDoor
namespace Go.Proofs.YtjabmeffgbaglaaDoor
open Go Go.RowKit Go.Proofs.YtjabmeffgbaglaaDoor.Ab
set_option linter.unusedSimpArgs false
set_option linter.unusedVariables false
def eTss (ls : List (List Tok)) : E := .sl (ls.map fun l => [eTks l])
theorem flat_take {α : Type} {ls : List (List α)} {i : Nat} (h : i < ls.length) : (ls.take (i + 1)).flatten = (ls.take i).flatten ++ ls.getD i [] := by
 rw [take_succ (d := []) h, List.flatten_append]
 simp
theorem flat_take_le {α : Type} (ls : List (List α)) (i : Nat) : (ls.take i).flatten.length ≤ ls.flatten.length := by
 have h : ls.flatten = (ls.take i).flatten ++ (ls.drop i).flatten := by rw [← List.flatten_append, List.take_append_drop]
 rw [h, List.length_append]
 omega
set_option maxRecDepth 10000 in
set_option maxHeartbeats 2000000 in
theorem cat_fn (ls : List (List Tok)) (hl : ls.length ≤ 5) (hb : ls.flatten.length ≤ 100000) : FnD Tryd.prog 38 [.one (.e (eTss ls))] (.one (.e (eTks ls.flatten))) := by
 refine fn_intro (T := tab) tOk Tryd.func38 rfl (by kernel_rfl) (by simp [Tryd.ntmps38]) ?_
 intro X hX
 have hnt : X.nt = 17 := hX
 clear hX
 have hml : (ls.map fun l => [eTks l]).length = ls.length := List.length_map ..
 repeat' first | refine zzs ?_ | refine zzb ?_ | refine zzk ?_
 first | refine zzr hnt rfl ?_ ?_ | refine zzd hnt rfl ?_ ?_
 ·exact zzt
 repeat' first | refine zzs ?_ | refine zzb ?_ | refine zzk ?_
 first | refine zzr hnt rfl ?_ ?_ | refine zzd hnt rfl ?_ ?_
 ·exact zzt
 repeat' first | refine zzs ?_ | refine zzb ?_ | refine zzk ?_
 first | refine zzr hnt rfl ?_ ?_ | refine zzd hnt rfl ?_ ?_
 ·exact zzt
 repeat' first | refine zzs ?_ | refine zzb ?_ | refine zzk ?_
 refine tr_loop (σ := Nat) (fun i => St.of [(3, .one (.own 3000 0)), (6, .one (.e (.sl (ls.map fun l => [eTks l])))), (7, .one (.e (eI ((ls.map fun l => [eTks l]).length : Int)))), (8, .one (.e (eI (i : Int))))] [(3000, ⟨0, .row 4 ((ls.take i).flatten.map eTok), 0⟩)]) (fun i => i ≤ ls.length) (fun i => ls.length - i) (0) (le_of (ad := [3000]) ⟨zzl, zzl, zzl, zzl, trivial⟩ (memOk_new rfl (by decide) trivial)) (Nat.zero_le _) ?_
 rintro i il
 repeat' first | refine zzs ?_ | refine zzr hnt rfl ?_ ?_ | refine zzd hnt rfl ?_ ?_ | refine zzb ?_ | refine zzk ?_
 ·exact zzt
 repeat' first | refine zzs ?_ | refine zzb ?_ | refine zzk ?_
 refine tr_cond rfl (fun hc => ?_) (fun hc => ?_)
 ·simp only [zz1, zz2, zz3, zz4, zz5, zz6, zz7, zz8] at hc
  (try simp only [hml] at hc)
  (try simp only [zz1, zz2, zz3, zz4, zz5, zz6, zz7, zz8] at hc)
  have hlt : i < ls.length := by omega
  have hg : (ls.map fun l => [eTks l]).getD i [] = [eTks (ls.getD i [])] := by
   rw [List.getD_eq_getElem?_getD, List.getElem?_map, List.getD_eq_getElem?_getD, List.getElem?_eq_getElem hlt]
   rfl
  have hft := flat_take hlt
  have hfl := flat_take_le ls (i + 1)
  rw [hft, List.length_append] at hfl
  generalize hnx : (ls.take (i + 1)).flatten = nx at *
  generalize (ls.take i).flatten = ac at *
  repeat' first | refine zzs ?_ | refine zzb ?_ | refine zzk ?_
  first | refine zzr hnt rfl ?_ ?_ | refine zzd hnt rfl ?_ ?_
  ·rw [Int.toNat_natCast, hg, hml]
   exact zza
  rw [Int.toNat_natCast, hg]
  generalize ls.getD i [] = l at *
  refine tr_le (s' := St.of [(3, .one (.own 3000 0)), (5, .one (.e (eTks l))), (6, .one (.e (.sl (ls.map fun l => [eTks l])))), (7, .one (.e (eI ((ls.map fun l => [eTks l]).length : Int)))), (8, .one (.e (eI (i : Int))))] [(3000, ⟨0, .row 4 (ac.map eTok), 0⟩)]) (le_of (ad := []) ⟨zzl, zzl, zzl, zzl, zzl, trivial⟩ (memOk_row rfl rfl rfl trivial)) ?_
  have la : (ac.map eTok).length = ac.length := List.length_map ..
  have ll : (l.map eTok).length = l.length := List.length_map ..
  have hq1 : (ac.map eTok).length + (l.map eTok).length ≤ maxLen := by rw [la, ll]; simp only [maxLen]; omega
  have hq2 : ((ac.map eTok).length + (l.map eTok).length) * 40 ≤ 140737488355328 := by rw [la, ll]; omega
  have h4 : ∀ cs ∈ l.map eTok, cs.length = 4 := fun cs hc => by
   obtain ⟨q, _, rfl⟩ := List.mem_map.1 hc
   rfl
  repeat' first | refine zzs ?_ | refine zzb ?_ | refine zzk ?_
  first | refine zzr hnt rfl ?_ ?_ | refine zzd hnt rfl ?_ ?_
  ·exact zza
  repeat' first | refine zzs ?_ | refine zzr hnt rfl ?_ ?_ | refine zzd hnt rfl ?_ ?_ | refine zzb ?_ | refine zzk ?_
  ·exact zzt
  refine ⟨i + 1, hlt, by omega, le_of (ad := []) ⟨zzl, zzl, zzl, zzl, trivial⟩ (memOk_row rfl rfl (by rw [hnx, hft, List.map_append]) trivial)⟩
 simp only [zz1, zz2, zz3, zz4, zz5, zz6, zz7, zz8] at hc
 (try simp only [hml] at hc)
 (try simp only [zz1, zz2, zz3, zz4, zz5, zz6, zz7, zz8] at hc)
 have hi : i = ls.length := by omega
 subst hi
 rw [List.take_length]
 refine tr_exit ?_
 repeat' first | refine zzs ?_ | refine zzr hnt rfl ?_ ?_ | refine zzd hnt rfl ?_ ?_ | refine zzb ?_ | refine zzk ?_
 ·exact zzt
 exact tr_ret ⟨.inr rfl, _, _, rfl, trivial, rfl⟩
set_option maxRecDepth 10000 in
set_option maxHeartbeats 2000000 in
theorem litTokens_fn (v : Val) (hv : v.k = 1 → v.i = 0 ∨ v.i = 1) : FnG Tryd.prog 43 ([(3, spE)]) [.agg (.es (eVal v))] (.one (.e (eTks [ltT v]))) := by
 refine fn_introG (T := tab) tOk Tryd.func43 rfl (by kernel_rfl) (by simp [Tryd.ntmps43]) ?_
 intro X hX
 have hnt : X.nt = 32 := hX
 clear hX
 unfold ltT
 repeat' first | refine zzs ?_ | refine zzr hnt rfl ?_ ?_ | refine zzd hnt rfl ?_ ?_ | refine zzb ?_ | refine zzk ?_
 ·exact zzt
 ·exact zzt
 ·exact zzt
 repeat' first | refine zzs ?_ | refine zzb ?_ | refine zzk ?_
 refine tr_cond rfl (fun hc => ?_) (fun hc => ?_)
 ·simp only [zz1, zz2, zz3, zz4, zz5, zz6, zz7, zz8] at hc
  (try simp only [eVal0] at hc)
  (try simp only [zz1, zz2, zz3, zz4, zz5, zz6, zz7, zz8] at hc)
  rw [if_pos hc]
  have h := tokens_i
  repeat' first | refine zzs ?_ | refine zzb ?_ | refine zzk ?_
  refine tr_region (zzx hnt rfl ?_ (callV rfl rfl rfl rfl rfl rfl rfl hnt rfl (h) (zzx hnt rfl ?_ (Lex.nil _)))) ?_
  ·exact zzt
  ·exact zzt
  exact tr_ret ⟨.inr rfl, _, _, rfl, zzp, rfl⟩
 simp only [zz1, zz2, zz3, zz4, zz5, zz6, zz7, zz8] at hc
 (try simp only [eVal0] at hc)
 (try simp only [zz1, zz2, zz3, zz4, zz5, zz6, zz7, zz8] at hc)
 rw [if_neg hc]
 repeat' first | refine zzs ?_ | refine zzb ?_ | refine zzk ?_
 first | refine zzr hnt rfl ?_ ?_ | refine zzd hnt rfl ?_ ?_
 ·exact zzt
 repeat' first | refine zzs ?_ | refine zzb ?_ | refine zzk ?_
 refine tr_cond rfl (fun hc => ?_) (fun hc => ?_)
 ·simp only [zz1, zz2, zz3, zz4, zz5, zz6, zz7, zz8] at hc
  (try simp only [eVal0] at hc)
  (try simp only [zz1, zz2, zz3, zz4, zz5, zz6, zz7, zz8] at hc)
  rw [if_pos hc]
  have hk := hv hc
  have e1 : eVal v = [eI v.k, eI v.i, eQ v.b, eT v.t] := rfl
  rw [e1]
  rcases hk with h | h
  ·rw [h]
   have h := tokens_j
   repeat' first | refine zzs ?_ | refine zzb ?_ | refine zzk ?_
   refine tr_region (zzx hnt rfl ?_ (callV rfl rfl rfl rfl rfl rfl rfl hnt rfl (h) (zzx hnt rfl ?_ (Lex.nil _)))) ?_
   ·dsimp only [AllP]; (repeat' first | exact trivial | apply And.intro  | assumption | exact Nat.le_of_ble_eq_true rfl | exact rfl | intro _ | exact (by decide : (0 : Int) ≤ 0) | exact (by decide : (0 : Int) ≤ 1) | exact (by decide : (0 : Int) < 2) | exact (by decide : (1 : Int) < 2))
   ·exact zzt
   exact tr_ret ⟨.inr rfl, _, _, rfl, zzp, rfl⟩
  ·rw [h]
   have h := tokens_k
   repeat' first | refine zzs ?_ | refine zzb ?_ | refine zzk ?_
   refine tr_region (zzx hnt rfl ?_ (callV rfl rfl rfl rfl rfl rfl rfl hnt rfl (h) (zzx hnt rfl ?_ (Lex.nil _)))) ?_
   ·dsimp only [AllP]; (repeat' first | exact trivial | apply And.intro  | assumption | exact Nat.le_of_ble_eq_true rfl | exact rfl | intro _ | exact (by decide : (0 : Int) ≤ 0) | exact (by decide : (0 : Int) ≤ 1) | exact (by decide : (0 : Int) < 2) | exact (by decide : (1 : Int) < 2))
   ·exact zzt
   exact tr_ret ⟨.inr rfl, _, _, rfl, zzp, rfl⟩
 simp only [zz1, zz2, zz3, zz4, zz5, zz6, zz7, zz8] at hc
 (try simp only [eVal0] at hc)
 (try simp only [zz1, zz2, zz3, zz4, zz5, zz6, zz7, zz8] at hc)
 rw [if_neg hc]
 repeat' first | refine zzs ?_ | refine zzb ?_ | refine zzk ?_
 first | refine zzr hnt rfl ?_ ?_ | refine zzd hnt rfl ?_ ?_
 ·exact zzt
 repeat' first | refine zzs ?_ | refine zzb ?_ | refine zzk ?_
 refine tr_cond rfl (fun hc => ?_) (fun hc => ?_)
 ·simp only [zz1, zz2, zz3, zz4, zz5, zz6, zz7, zz8] at hc
  (try simp only [eVal0] at hc)
  (try simp only [zz1, zz2, zz3, zz4, zz5, zz6, zz7, zz8] at hc)
  rw [if_pos hc]
  repeat' first | refine zzs ?_ | refine zzr hnt rfl ?_ ?_ | refine zzd hnt rfl ?_ ?_ | refine zzb ?_ | refine zzk ?_
  ·exact zzt
  exact tr_ret ⟨.inr rfl, _, _, rfl, zzp, rfl⟩
 simp only [zz1, zz2, zz3, zz4, zz5, zz6, zz7, zz8] at hc
 (try simp only [eVal0] at hc)
 (try simp only [zz1, zz2, zz3, zz4, zz5, zz6, zz7, zz8] at hc)
 rw [if_neg hc]
 repeat' first | refine zzs ?_ | refine zzb ?_ | refine zzk ?_
 first | refine zzr hnt rfl ?_ ?_ | refine zzd hnt rfl ?_ ?_
 ·exact zzt
 repeat' first | refine zzs ?_ | refine zzb ?_ | refine zzk ?_
 refine tr_cond rfl (fun hc => ?_) (fun hc => ?_)
 ·simp only [zz1, zz2, zz3, zz4, zz5, zz6, zz7, zz8] at hc
  (try simp only [eVal0] at hc)
  (try simp only [zz1, zz2, zz3, zz4, zz5, zz6, zz7, zz8] at hc)
  rw [if_pos hc]
  repeat' first | refine zzs ?_ | refine zzr hnt rfl ?_ ?_ | refine zzd hnt rfl ?_ ?_ | refine zzb ?_ | refine zzk ?_
  ·exact zzt
  exact tr_ret ⟨.inr rfl, _, _, rfl, zzp, rfl⟩
 simp only [zz1, zz2, zz3, zz4, zz5, zz6, zz7, zz8] at hc
 (try simp only [eVal0] at hc)
 (try simp only [zz1, zz2, zz3, zz4, zz5, zz6, zz7, zz8] at hc)
 rw [if_neg hc]
 repeat' first | refine zzs ?_ | refine zzr hnt rfl ?_ ?_ | refine zzd hnt rfl ?_ ?_ | refine zzb ?_ | refine zzk ?_
 ·exact zzt
 exact tr_ret ⟨.inr rfl, _, _, rfl, zzp, rfl⟩
end Go.Proofs.YtjabmeffgbaglaaDoor
namespace Go.Proofs.YtjabmeffgbaglaaDoor
open Go Go.RowKit Go.Proofs.YtjabmeffgbaglaaDoor.Ab
set_option linter.unusedSimpArgs false
set_option linter.unusedVariables false
def Shown (x : Ex) : Prop := FnG Tryd.prog 45 [(3, spE), (6, mkE)] [.agg (.es (eEx x))] (.one (.e (eTks (shX x))))
set_option maxRecDepth 10000 in
set_option maxHeartbeats 2000000 in
theorem inside_fn (l : Int) (x : Ex) (h1 : 1 ≤ x.op) (h2 : x.op ≤ 20) (ih : Shown x) (hb : (shX x).length ≤ 1000) : FnG Tryd.prog 69 ([(3, spE), (6, mkE)]) [.agg (.es (eEx x)), .one (.e (eI l))] (.one (.e (eTks (shF x (l + 1))))) := by
 refine fn_introG (T := tab) tOk Tryd.func69 rfl (by kernel_rfl) (by simp [Tryd.ntmps69]) ?_
 intro X hX
 have hnt : X.nt = 19 := hX
 clear hX
 have hbi := binds_fn x.op h1 h2
 unfold shF brk
 dsimp only
 unfold Shown at ih
 rw [eEx_eq] at ih ⊢
 generalize shX x = p at *
 repeat' first | refine zzs ?_ | refine zzb ?_ | refine zzk ?_
 first | refine zzr hnt rfl ?_ ?_ | refine zzd hnt rfl ?_ ?_
 ·exact zzt
 repeat' first | refine zzs ?_ | refine zzb ?_ | refine zzk ?_
 refine tr_region (zzx hnt rfl ?_ (callV rfl rfl rfl rfl rfl rfl rfl hnt rfl (ih) (zzx hnt rfl ?_ (Lex.nil _)))) ?_
 ·exact zzt
 ·exact zzt
 repeat' first | refine zzs ?_ | refine zzb ?_ | refine zzk ?_
 refine tr_region (zzx hnt rfl ?_ (call rfl rfl rfl rfl rfl rfl rfl hnt (hbi) (zzx hnt rfl ?_ (Lex.nil _)))) ?_
 ·exact zza
 ·exact zza
 repeat' first | refine zzs ?_ | refine zzb ?_ | refine zzk ?_
 refine tr_cond rfl (fun hc => ?_) (fun hc => ?_)
 ·simp only [zz1, zz2, zz3, zz4, zz5, zz6, zz7, zz8] at hc
  rw [if_pos (by omega)]
  have h1 := tokens_c
  have h2 := tokens_d
  have h3 := cat_fn [[sgT [40]], p, [sgT [41]]] (Nat.le_of_ble_eq_true rfl) (by simp; omega)
  have h4 : ([[sgT [40]], p, [sgT [41]]] : List (List Tok)).flatten = sgT [40] :: p ++ [sgT [41]] := by simp
  rw [h4] at h3
  repeat' first | refine zzs ?_ | refine zzb ?_ | refine zzk ?_
  refine tr_region (zzx hnt rfl ?_ (callV rfl rfl rfl rfl rfl rfl rfl hnt rfl (h1) (zzx hnt rfl ?_ (callV rfl rfl rfl rfl rfl rfl rfl hnt rfl (h2) (zzx hnt rfl ?_ (callU rfl rfl rfl rfl rfl rfl rfl hnt (h3) (zzx hnt rfl ?_ (Lex.nil _)))))))) ?_
  ·exact zzt
  ·exact zzt
  ·exact zzt
  ·exact zzt
  exact tr_ret ⟨.inr rfl, _, _, rfl, zzp, rfl⟩
 simp only [zz1, zz2, zz3, zz4, zz5, zz6, zz7, zz8] at hc
 rw [if_neg (by omega)]
 repeat' first | refine zzs ?_ | refine zzr hnt rfl ?_ ?_ | refine zzd hnt rfl ?_ ?_ | refine zzb ?_ | refine zzk ?_
 ·exact zzt
 exact tr_ret ⟨.inr rfl, _, _, rfl, zzp, rfl⟩
end Go.Proofs.YtjabmeffgbaglaaDoor
namespace Go.Proofs.YtjabmeffgbaglaaDoor
open Go Go.RowKit Go.Proofs.YtjabmeffgbaglaaDoor.Ab
set_option linter.unusedSimpArgs false
set_option linter.unusedVariables false
theorem shF_len {x : Ex} (h : (shX x).length ≤ 998) (l : Int) : (shF x l).length ≤ 1000 := by
 have := brk_len l (x.op, shX x)
 show (brk l (x.op, shX x)).length ≤ 1000
 dsimp only at this
 omega
theorem insideF {l l2 : Int} {x : Ex} (h : l2 = l + 1) (h1 : 1 ≤ x.op ∧ x.op ≤ 20) (ih : Shown x) (hb : (shX x).length ≤ 998) : FnG Tryd.prog 69 [(3, spE), (6, mkE)] [.agg (.es (List.take 7 (List.drop 0 (eEx x)))), .one (.e (eI l))] (.one (.e (eTks (shF x l2)))) := by
 rw [h, exAll]
 exact inside_fn l x h1.1 h1.2 ih (by omega)
theorem shownF {x : Ex} (ih : Shown x) : FnG Tryd.prog 45 [(3, spE), (6, mkE)] [.agg (.es (List.take 7 (List.drop 0 (eEx x))))] (.one (.e (eTks (shX x)))) := by
 rw [exAll]
 exact ih
set_option maxRecDepth 10000 in
set_option maxHeartbeats 2000000 in
theorem shown_lit (v : Val) (n : Byt) (hv : v.k = 1 → v.i = 0 ∨ v.i = 1) : FnG Tryd.prog 45 ([(3, spE), (6, mkE)]) [.agg (.es (eEx (.mk 1 v n [])))] (.one (.e (eTks [ltT v]))) := by
 refine fn_introG (T := tab) tOk Tryd.func45 rfl (by kernel_rfl) (by simp [Tryd.ntmps45]) ?_
 intro X hX
 have hnt : X.nt = 105 := hX
 clear hX
 rw [eEx_mk]
 have hbi : FnD Tryd.prog 68 [.one (.e (eI 1))] (.one (.e (eI 8))) := binds_fn 1 (by decide) (by decide)
 repeat' (first | refine tr_seq ?_ | refine tr_block ?_ | refine tr_skip ?_ | refine tr_unroll 30 ?_ | refine rounds_go ?_ | refine tr_exit ?_ | refine reg (T := tab) tOk hnt rfl (by exact zzt) ?_ | refine regD (T := tab) tOk mixedR hnt rfl (by first | decide +kernel | kernel_rfl) (by exact zzt) ?_ | refine tr_cond rfl (fun hc => ?_) (fun hc => absurd (show true = false from hc) Bool.noConfusion) | refine tr_cond rfl (fun hc => absurd (show false = true from hc) Bool.noConfusion) (fun hc => ?_))
 repeat' first | refine zzs ?_ | refine zzb ?_ | refine zzk ?_
 refine tr_region (zzx hnt rfl ?_ (call rfl rfl rfl rfl rfl rfl rfl hnt (hbi) (zzx hnt rfl ?_ (Lex.nil _)))) ?_
 ·exact zza
 ·exact zza
 repeat' (first | refine tr_seq ?_ | refine tr_block ?_ | refine tr_skip ?_ | refine tr_unroll 30 ?_ | refine rounds_go ?_ | refine tr_exit ?_ | refine reg (T := tab) tOk hnt rfl (by exact zzt) ?_ | refine regD (T := tab) tOk mixedR hnt rfl (by first | decide +kernel | kernel_rfl) (by exact zzt) ?_ | refine tr_cond rfl (fun hc => ?_) (fun hc => absurd (show true = false from hc) Bool.noConfusion) | refine tr_cond rfl (fun hc => absurd (show false = true from hc) Bool.noConfusion) (fun hc => ?_))
 have h1 := litTokens_fn v hv
 repeat' first | refine zzs ?_ | refine zzb ?_ | refine zzk ?_
 refine tr_region (zzx hnt rfl ?_ (callV rfl rfl rfl rfl rfl rfl rfl hnt rfl (h1) (zzx hnt rfl ?_ (Lex.nil _)))) ?_
 ·exact zza
 ·exact zza
 exact tr_ret ⟨.inr rfl, _, _, rfl, zzp, rfl⟩
set_option maxRecDepth 10000 in
set_option maxHeartbeats 2000000 in
theorem shown_col (v : Val) (n : Byt) : FnG Tryd.prog 45 ([(3, spE), (6, mkE)]) [.agg (.es (eEx (.mk 2 v n [])))] (.one (.e (eTks [⟨1, n, 0, 0⟩]))) := by
 refine fn_introG (T := tab) tOk Tryd.func45 rfl (by kernel_rfl) (by simp [Tryd.ntmps45]) ?_
 intro X hX
 have hnt : X.nt = 105 := hX
 clear hX
 rw [eEx_mk]
 have hbi : FnD Tryd.prog 68 [.one (.e (eI 2))] (.one (.e (eI 8))) := binds_fn 2 (by decide) (by decide)
 repeat' (first | refine tr_seq ?_ | refine tr_block ?_ | refine tr_skip ?_ | refine tr_unroll 30 ?_ | refine rounds_go ?_ | refine tr_exit ?_ | refine reg (T := tab) tOk hnt rfl (by exact zzt) ?_ | refine regD (T := tab) tOk mixedR hnt rfl (by first | decide +kernel | kernel_rfl) (by exact zzt) ?_ | refine tr_cond rfl (fun hc => ?_) (fun hc => absurd (show true = false from hc) Bool.noConfusion) | refine tr_cond rfl (fun hc => absurd (show false = true from hc) Bool.noConfusion) (fun hc => ?_))
 repeat' first | refine zzs ?_ | refine zzb ?_ | refine zzk ?_
 refine tr_region (zzx hnt rfl ?_ (call rfl rfl rfl rfl rfl rfl rfl hnt (hbi) (zzx hnt rfl ?_ (Lex.nil _)))) ?_
 ·exact zza
 ·exact zza
 repeat' (first | refine tr_seq ?_ | refine tr_block ?_ | refine tr_skip ?_ | refine tr_unroll 30 ?_ | refine rounds_go ?_ | refine tr_exit ?_ | refine reg (T := tab) tOk hnt rfl (by exact zzt) ?_ | refine regD (T := tab) tOk mixedR hnt rfl (by first | decide +kernel | kernel_rfl) (by exact zzt) ?_ | refine tr_cond rfl (fun hc => ?_) (fun hc => absurd (show true = false from hc) Bool.noConfusion) | refine tr_cond rfl (fun hc => absurd (show false = true from hc) Bool.noConfusion) (fun hc => ?_))
 exact tr_ret ⟨.inr rfl, _, _, rfl, zzp, rfl⟩
set_option maxRecDepth 10000 in
set_option maxHeartbeats 2000000 in
theorem shown_neg (v : Val) (n : Byt) (a : Ex) (pa : 1 ≤ a.op ∧ a.op ≤ 20) (iha : Shown a) (lena : (shX a).length ≤ 998) : FnG Tryd.prog 45 ([(3, spE), (6, mkE)]) [.agg (.es (eEx (.mk 3 v n [a])))] (.one (.e (eTks ([sgT [45]] ++ shF a (lvF 3))))) := by
 refine fn_introG (T := tab) tOk Tryd.func45 rfl (by kernel_rfl) (by simp [Tryd.ntmps45]) ?_
 intro X hX
 have hnt : X.nt = 105 := hX
 clear hX
 have fa : 0 + 7 ≤ (Cs.es (eEx a)).len := by have := ex7 a; show 0 + 7 ≤ (eEx a).length; omega
 have ga : (eEx a).length = 7 := ex7 a
 have q0 : (0 : Int) < ((1 : Nat) : Int) := by decide
 rw [eEx_mk]
 have hbi : FnD Tryd.prog 68 [.one (.e (eI 3))] (.one (.e (eI 7))) := binds_fn 3 (by decide) (by decide)
 repeat' (first | refine tr_seq ?_ | refine tr_block ?_ | refine tr_skip ?_ | refine tr_unroll 30 ?_ | refine rounds_go ?_ | refine tr_exit ?_ | refine reg (T := tab) tOk hnt rfl (by exact zzt) ?_ | refine regD (T := tab) tOk mixedR hnt rfl (by first | decide +kernel | kernel_rfl) (by exact zzt) ?_ | refine tr_cond rfl (fun hc => ?_) (fun hc => absurd (show true = false from hc) Bool.noConfusion) | refine tr_cond rfl (fun hc => absurd (show false = true from hc) Bool.noConfusion) (fun hc => ?_))
 repeat' first | refine zzs ?_ | refine zzb ?_ | refine zzk ?_
 refine tr_region (zzx hnt rfl ?_ (call rfl rfl rfl rfl rfl rfl rfl hnt (hbi) (zzx hnt rfl ?_ (Lex.nil _)))) ?_
 ·exact zza
 ·exact zza
 repeat' (first | refine tr_seq ?_ | refine tr_block ?_ | refine tr_skip ?_ | refine tr_unroll 30 ?_ | refine rounds_go ?_ | refine tr_exit ?_ | refine reg (T := tab) tOk hnt rfl (by exact zzt) ?_ | refine regD (T := tab) tOk mixedR hnt rfl (by first | decide +kernel | kernel_rfl) (by exact zzt) ?_ | refine tr_cond rfl (fun hc => ?_) (fun hc => absurd (show true = false from hc) Bool.noConfusion) | refine tr_cond rfl (fun hc => absurd (show false = true from hc) Bool.noConfusion) (fun hc => ?_))
 have h1 := tokens_a
 have h2 := insideF (l := 7) (l2 := lvF 3) rfl pa iha lena
 have l2 := shF_len lena (lvF 3)
 have h9 := cat_fn [[sgT [45]], shF a (lvF 3)] (Nat.le_of_ble_eq_true rfl) (by simp; omega)
 rw [show ([[sgT [45]], shF a (lvF 3)] : List (List Tok)).flatten = [sgT [45]] ++ shF a (lvF 3) from by simp] at h9
 repeat' first | refine zzs ?_ | refine zzb ?_ | refine zzk ?_
 refine tr_draw (T := tab) tOk hnt mixedR (lexD (T := tab) rfl ?_ (callVD rfl rfl rfl rfl rfl rfl rfl rfl rfl (h1) (lexD (T := tab) rfl ?_ (callVD rfl rfl rfl rfl rfl rfl rfl rfl rfl (h2) (lexD (T := tab) rfl ?_ (callDU rfl rfl rfl rfl rfl rfl rfl rfl rfl (h9) (lexD (T := tab) rfl ?_ (.nil _)))))))) (by first | decide +kernel | kernel_rfl) ?_
 ·exact zza
 ·exact zza
 ·exact zza
 ·exact zza
 exact tr_ret ⟨.inr rfl, _, _, rfl, zzp, rfl⟩
set_option maxRecDepth 10000 in
set_option maxHeartbeats 2000000 in
theorem shown_not (v : Val) (n : Byt) (a : Ex) (pa : 1 ≤ a.op ∧ a.op ≤ 20) (iha : Shown a) (lena : (shX a).length ≤ 998) : FnG Tryd.prog 45 ([(3, spE), (6, mkE)]) [.agg (.es (eEx (.mk 4 v n [a])))] (.one (.e (eTks ([wdT [78,79,84]] ++ shF a (lvF 4))))) := by
 refine fn_introG (T := tab) tOk Tryd.func45 rfl (by kernel_rfl) (by simp [Tryd.ntmps45]) ?_
 intro X hX
 have hnt : X.nt = 105 := hX
 clear hX
 have fa : 0 + 7 ≤ (Cs.es (eEx a)).len := by have := ex7 a; show 0 + 7 ≤ (eEx a).length; omega
 have ga : (eEx a).length = 7 := ex7 a
 have q0 : (0 : Int) < ((1 : Nat) : Int) := by decide
 rw [eEx_mk]
 have hbi : FnD Tryd.prog 68 [.one (.e (eI 4))] (.one (.e (eI 2))) := binds_fn 4 (by decide) (by decide)
 repeat' (first | refine tr_seq ?_ | refine tr_block ?_ | refine tr_skip ?_ | refine tr_unroll 30 ?_ | refine rounds_go ?_ | refine tr_exit ?_ | refine reg (T := tab) tOk hnt rfl (by exact zzt) ?_ | refine regD (T := tab) tOk mixedR hnt rfl (by first | decide +kernel | kernel_rfl) (by exact zzt) ?_ | refine tr_cond rfl (fun hc => ?_) (fun hc => absurd (show true = false from hc) Bool.noConfusion) | refine tr_cond rfl (fun hc => absurd (show false = true from hc) Bool.noConfusion) (fun hc => ?_))
 repeat' first | refine zzs ?_ | refine zzb ?_ | refine zzk ?_
 refine tr_region (zzx hnt rfl ?_ (call rfl rfl rfl rfl rfl rfl rfl hnt (hbi) (zzx hnt rfl ?_ (Lex.nil _)))) ?_
 ·exact zza
 ·exact zza
 repeat' (first | refine tr_seq ?_ | refine tr_block ?_ | refine tr_skip ?_ | refine tr_unroll 30 ?_ | refine rounds_go ?_ | refine tr_exit ?_ | refine reg (T := tab) tOk hnt rfl (by exact zzt) ?_ | refine regD (T := tab) tOk mixedR hnt rfl (by first | decide +kernel | kernel_rfl) (by exact zzt) ?_ | refine tr_cond rfl (fun hc => ?_) (fun hc => absurd (show true = false from hc) Bool.noConfusion) | refine tr_cond rfl (fun hc => absurd (show false = true from hc) Bool.noConfusion) (fun hc => ?_))
 have h1 := tokens_b
 have h2 := insideF (l := 2) (l2 := lvF 4) rfl pa iha lena
 have l2 := shF_len lena (lvF 4)
 have h9 := cat_fn [[wdT [78,79,84]], shF a (lvF 4)] (Nat.le_of_ble_eq_true rfl) (by simp; omega)
 rw [show ([[wdT [78,79,84]], shF a (lvF 4)] : List (List Tok)).flatten = [wdT [78,79,84]] ++ shF a (lvF 4) from by simp] at h9
 repeat' first | refine zzs ?_ | refine zzb ?_ | refine zzk ?_
 refine tr_draw (T := tab) tOk hnt mixedR (lexD (T := tab) rfl ?_ (callVD rfl rfl rfl rfl rfl rfl rfl rfl rfl (h1) (lexD (T := tab) rfl ?_ (callVD rfl rfl rfl rfl rfl rfl rfl rfl rfl (h2) (lexD (T := tab) rfl ?_ (callDU rfl rfl rfl rfl rfl rfl rfl rfl rfl (h9) (lexD (T := tab) rfl ?_ (.nil _)))))))) (by first | decide +kernel | kernel_rfl) ?_
 ·exact zza
 ·exact zza
 ·exact zza
 ·exact zza
 exact tr_ret ⟨.inr rfl, _, _, rfl, zzp, rfl⟩
set_option maxRecDepth 10000 in
set_option maxHeartbeats 2000000 in
theorem shown_isn (v : Val) (n : Byt) (a : Ex) (pa : 1 ≤ a.op ∧ a.op ≤ 20) (iha : Shown a) (lena : (shX a).length ≤ 998) : FnG Tryd.prog 45 ([(3, spE), (6, mkE)]) [.agg (.es (eEx (.mk 17 v n [a])))] (.one (.e (eTks (shF a 5 ++ [wdT [73,83], wdT [78,85,76,76]])))) := by
 refine fn_introG (T := tab) tOk Tryd.func45 rfl (by kernel_rfl) (by simp [Tryd.ntmps45]) ?_
 intro X hX
 have hnt : X.nt = 105 := hX
 clear hX
 have fa : 0 + 7 ≤ (Cs.es (eEx a)).len := by have := ex7 a; show 0 + 7 ≤ (eEx a).length; omega
 have ga : (eEx a).length = 7 := ex7 a
 have q0 : (0 : Int) < ((1 : Nat) : Int) := by decide
 rw [eEx_mk]
 have hbi : FnD Tryd.prog 68 [.one (.e (eI 17))] (.one (.e (eI 3))) := binds_fn 17 (by decide) (by decide)
 repeat' (first | refine tr_seq ?_ | refine tr_block ?_ | refine tr_skip ?_ | refine tr_unroll 30 ?_ | refine rounds_go ?_ | refine tr_exit ?_ | refine reg (T := tab) tOk hnt rfl (by exact zzt) ?_ | refine regD (T := tab) tOk mixedR hnt rfl (by first | decide +kernel | kernel_rfl) (by exact zzt) ?_ | refine tr_cond rfl (fun hc => ?_) (fun hc => absurd (show true = false from hc) Bool.noConfusion) | refine tr_cond rfl (fun hc => absurd (show false = true from hc) Bool.noConfusion) (fun hc => ?_))
 repeat' first | refine zzs ?_ | refine zzb ?_ | refine zzk ?_
 refine tr_region (zzx hnt rfl ?_ (call rfl rfl rfl rfl rfl rfl rfl hnt (hbi) (zzx hnt rfl ?_ (Lex.nil _)))) ?_
 ·exact zza
 ·exact zza
 repeat' (first | refine tr_seq ?_ | refine tr_block ?_ | refine tr_skip ?_ | refine tr_unroll 30 ?_ | refine rounds_go ?_ | refine tr_exit ?_ | refine reg (T := tab) tOk hnt rfl (by exact zzt) ?_ | refine regD (T := tab) tOk mixedR hnt rfl (by first | decide +kernel | kernel_rfl) (by exact zzt) ?_ | refine tr_cond rfl (fun hc => ?_) (fun hc => absurd (show true = false from hc) Bool.noConfusion) | refine tr_cond rfl (fun hc => absurd (show false = true from hc) Bool.noConfusion) (fun hc => ?_))
 have h1 := tokens_e
 have h2 := insideF (l := 4) (l2 := 5) rfl pa iha lena
 have l2 := shF_len lena 5
 have h9 := cat_fn [shF a 5, [wdT [73,83], wdT [78,85,76,76]]] (Nat.le_of_ble_eq_true rfl) (by simp; omega)
 rw [show ([shF a 5, [wdT [73,83], wdT [78,85,76,76]]] : List (List Tok)).flatten = shF a 5 ++ [wdT [73,83], wdT [78,85,76,76]] from by simp] at h9
 repeat' first | refine zzs ?_ | refine zzb ?_ | refine zzk ?_
 refine tr_region (zzx hnt rfl ?_ (callV rfl rfl rfl rfl rfl rfl rfl hnt rfl (h2) (zzx hnt rfl ?_ (callV rfl rfl rfl rfl rfl rfl rfl hnt rfl (h1) (zzx hnt rfl ?_ (callU rfl rfl rfl rfl rfl rfl rfl hnt (h9) (zzx hnt rfl ?_ (Lex.nil _)))))))) ?_
 ·exact zza
 ·exact zza
 ·exact zza
 ·exact zza
 exact tr_ret ⟨.inr rfl, _, _, rfl, zzp, rfl⟩
set_option maxRecDepth 10000 in
set_option maxHeartbeats 2000000 in
theorem shown_len (v : Val) (n : Byt) (a : Ex) (pa : 1 ≤ a.op ∧ a.op ≤ 20) (iha : Shown a) (lena : (shX a).length ≤ 998) : FnG Tryd.prog 45 ([(3, spE), (6, mkE)]) [.agg (.es (eEx (.mk 18 v n [a])))] (.one (.e (eTks ([wdT [76,69,78,71,84,72], sgT [40]] ++ shX a ++ [sgT [41]])))) := by
 refine fn_introG (T := tab) tOk Tryd.func45 rfl (by kernel_rfl) (by simp [Tryd.ntmps45]) ?_
 intro X hX
 have hnt : X.nt = 105 := hX
 clear hX
 have fa : 0 + 7 ≤ (Cs.es (eEx a)).len := by have := ex7 a; show 0 + 7 ≤ (eEx a).length; omega
 have ga : (eEx a).length = 7 := ex7 a
 have q0 : (0 : Int) < ((1 : Nat) : Int) := by decide
 rw [eEx_mk]
 have hbi : FnD Tryd.prog 68 [.one (.e (eI 18))] (.one (.e (eI 8))) := binds_fn 18 (by decide) (by decide)
 repeat' (first | refine tr_seq ?_ | refine tr_block ?_ | refine tr_skip ?_ | refine tr_unroll 30 ?_ | refine rounds_go ?_ | refine tr_exit ?_ | refine reg (T := tab) tOk hnt rfl (by exact zzt) ?_ | refine regD (T := tab) tOk mixedR hnt rfl (by first | decide +kernel | kernel_rfl) (by exact zzt) ?_ | refine tr_cond rfl (fun hc => ?_) (fun hc => absurd (show true = false from hc) Bool.noConfusion) | refine tr_cond rfl (fun hc => absurd (show false = true from hc) Bool.noConfusion) (fun hc => ?_))
 repeat' first | refine zzs ?_ | refine zzb ?_ | refine zzk ?_
 refine tr_region (zzx hnt rfl ?_ (call rfl rfl rfl rfl rfl rfl rfl hnt (hbi) (zzx hnt rfl ?_ (Lex.nil _)))) ?_
 ·exact zza
 ·exact zza
 repeat' (first | refine tr_seq ?_ | refine tr_block ?_ | refine tr_skip ?_ | refine tr_unroll 30 ?_ | refine rounds_go ?_ | refine tr_exit ?_ | refine reg (T := tab) tOk hnt rfl (by exact zzt) ?_ | refine regD (T := tab) tOk mixedR hnt rfl (by first | decide +kernel | kernel_rfl) (by exact zzt) ?_ | refine tr_cond rfl (fun hc => ?_) (fun hc => absurd (show true = false from hc) Bool.noConfusion) | refine tr_cond rfl (fun hc => absurd (show false = true from hc) Bool.noConfusion) (fun hc => ?_))
 have h1 := tokens_f
 have h2 := shownF iha
 have h3 := tokens_d
 have h9 := cat_fn [[wdT [76,69,78,71,84,72], sgT [40]], shX a, [sgT [41]]] (Nat.le_of_ble_eq_true rfl) (by simp; omega)
 rw [show ([[wdT [76,69,78,71,84,72], sgT [40]], shX a, [sgT [41]]] : List (List Tok)).flatten = [wdT [76,69,78,71,84,72], sgT [40]] ++ shX a ++ [sgT [41]] from by simp] at h9
 repeat' first | refine zzs ?_ | refine zzb ?_ | refine zzk ?_
 refine tr_draw (T := tab) tOk hnt mixedR (lexD (T := tab) rfl ?_ (callVD rfl rfl rfl rfl rfl rfl rfl rfl rfl (h1) (lexD (T := tab) rfl ?_ (callVD rfl rfl rfl rfl rfl rfl rfl rfl rfl (h2) (lexD (T := tab) rfl ?_ (callVD rfl rfl rfl rfl rfl rfl rfl rfl rfl (h3) (lexD (T := tab) rfl ?_ (callDU rfl rfl rfl rfl rfl rfl rfl rfl rfl (h9) (lexD (T := tab) rfl ?_ (.nil _)))))))))) (by first | decide +kernel | kernel_rfl) ?_
 ·exact zza
 ·exact zza
 ·exact zza
 ·exact zza
 ·exact zza
 exact tr_ret ⟨.inr rfl, _, _, rfl, zzp, rfl⟩
set_option maxRecDepth 10000 in
set_option maxHeartbeats 2000000 in
theorem shown_coa (v : Val) (n : Byt) (a : Ex) (pa : 1 ≤ a.op ∧ a.op ≤ 20) (iha : Shown a) (lena : (shX a).length ≤ 998) (b : Ex) (pb : 1 ≤ b.op ∧ b.op ≤ 20) (ihb : Shown b) (lenb : (shX b).length ≤ 998) : FnG Tryd.prog 45 ([(3, spE), (6, mkE)]) [.agg (.es (eEx (.mk 20 v n [a, b])))] (.one (.e (eTks ([wdT [67,79,65,76,69,83,67,69], sgT [40]] ++ shX a ++ [sgT [44]] ++ shX b ++ [sgT [41]])))) := by
 refine fn_introG (T := tab) tOk Tryd.func45 rfl (by kernel_rfl) (by simp [Tryd.ntmps45]) ?_
 intro X hX
 have hnt : X.nt = 105 := hX
 clear hX
 have fa : 0 + 7 ≤ (Cs.es (eEx a)).len := by have := ex7 a; show 0 + 7 ≤ (eEx a).length; omega
 have ga : (eEx a).length = 7 := ex7 a
 have fb : 0 + 7 ≤ (Cs.es (eEx b)).len := by have := ex7 b; show 0 + 7 ≤ (eEx b).length; omega
 have gb : (eEx b).length = 7 := ex7 b
 have q0 : (0 : Int) < ((2 : Nat) : Int) := by decide
 have q1 : (1 : Int) < ((2 : Nat) : Int) := by decide
 rw [eEx_mk]
 have hbi : FnD Tryd.prog 68 [.one (.e (eI 20))] (.one (.e (eI 8))) := binds_fn 20 (by decide) (by decide)
 repeat' (first | refine tr_seq ?_ | refine tr_block ?_ | refine tr_skip ?_ | refine tr_unroll 30 ?_ | refine rounds_go ?_ | refine tr_exit ?_ | refine reg (T := tab) tOk hnt rfl (by exact zzt) ?_ | refine regD (T := tab) tOk mixedR hnt rfl (by first | decide +kernel | kernel_rfl) (by exact zzt) ?_ | refine tr_cond rfl (fun hc => ?_) (fun hc => absurd (show true = false from hc) Bool.noConfusion) | refine tr_cond rfl (fun hc => absurd (show false = true from hc) Bool.noConfusion) (fun hc => ?_))
 repeat' first | refine zzs ?_ | refine zzb ?_ | refine zzk ?_
 refine tr_region (zzx hnt rfl ?_ (call rfl rfl rfl rfl rfl rfl rfl hnt (hbi) (zzx hnt rfl ?_ (Lex.nil _)))) ?_
 ·exact zza
 ·exact zza
 repeat' (first | refine tr_seq ?_ | refine tr_block ?_ | refine tr_skip ?_ | refine tr_unroll 30 ?_ | refine rounds_go ?_ | refine tr_exit ?_ | refine reg (T := tab) tOk hnt rfl (by exact zzt) ?_ | refine regD (T := tab) tOk mixedR hnt rfl (by first | decide +kernel | kernel_rfl) (by exact zzt) ?_ | refine tr_cond rfl (fun hc => ?_) (fun hc => absurd (show true = false from hc) Bool.noConfusion) | refine tr_cond rfl (fun hc => absurd (show false = true from hc) Bool.noConfusion) (fun hc => ?_))
 have h1 := tokens_g
 have h2 := shownF iha
 have h3 := tokens_h
 have h4 := shownF ihb
 have h5 := tokens_d
 have h9 := cat_fn [[wdT [67,79,65,76,69,83,67,69], sgT [40]], shX a, [sgT [44]], shX b, [sgT [41]]] (Nat.le_of_ble_eq_true rfl) (by simp; omega)
 rw [show ([[wdT [67,79,65,76,69,83,67,69], sgT [40]], shX a, [sgT [44]], shX b, [sgT [41]]] : List (List Tok)).flatten = [wdT [67,79,65,76,69,83,67,69], sgT [40]] ++ shX a ++ [sgT [44]] ++ shX b ++ [sgT [41]] from by simp] at h9
 repeat' first | refine zzs ?_ | refine zzb ?_ | refine zzk ?_
 refine tr_draw (T := tab) tOk hnt mixedR (lexD (T := tab) rfl ?_ (callVD rfl rfl rfl rfl rfl rfl rfl rfl rfl (h1) (lexD (T := tab) rfl ?_ (callVD rfl rfl rfl rfl rfl rfl rfl rfl rfl (h2) (lexD (T := tab) rfl ?_ (callVD rfl rfl rfl rfl rfl rfl rfl rfl rfl (h3) (lexD (T := tab) rfl ?_ (callVD rfl rfl rfl rfl rfl rfl rfl rfl rfl (h4) (lexD (T := tab) rfl ?_ (callVD rfl rfl rfl rfl rfl rfl rfl rfl rfl (h5) (lexD (T := tab) rfl ?_ (callDU rfl rfl rfl rfl rfl rfl rfl rfl rfl (h9) (lexD (T := tab) rfl ?_ (.nil _)))))))))))))) (by first | decide +kernel | kernel_rfl) ?_
 ·exact zza
 ·exact zza
 ·exact zza
 ·exact zza
 ·exact zza
 ·exact zza
 ·exact zza
 exact tr_ret ⟨.inr rfl, _, _, rfl, zzp, rfl⟩
end Go.Proofs.YtjabmeffgbaglaaDoor
namespace Go.Proofs.YtjabmeffgbaglaaDoor
open Go Go.RowKit Go.Proofs.YtjabmeffgbaglaaDoor.Ab
set_option linter.unusedSimpArgs false
set_option linter.unusedVariables false
set_option maxRecDepth 10000 in
set_option maxHeartbeats 2000000 in
theorem shown_bin (op : Int) (ho : (5 ≤ op ∧ op ≤ 16) ∨ op = 19) (v : Val) (n : Byt) (a : Ex) (pa : 1 ≤ a.op ∧ a.op ≤ 20) (iha : Shown a) (lena : (shX a).length ≤ 998) (b : Ex) (pb : 1 ≤ b.op ∧ b.op ≤ 20) (ihb : Shown b) (lenb : (shX b).length ≤ 998) : FnG Tryd.prog 45 ([(3, spE), (6, mkE)]) [.agg (.es (eEx (.mk op v n [a, b])))] (.one (.e (eTks (shF a (left op) ++ [mkS op] ++ shF b (lvF op + 1))))) := by
 refine fn_introG (T := tab) tOk Tryd.func45 rfl (by kernel_rfl) (by simp [Tryd.ntmps45]) ?_
 intro X hX
 have hnt : X.nt = 105 := hX
 clear hX
 have fa : 0 + 7 ≤ (Cs.es (eEx a)).len := by have := ex7 a; show 0 + 7 ≤ (eEx a).length; omega
 have ga : (eEx a).length = 7 := ex7 a
 have fb : 0 + 7 ≤ (Cs.es (eEx b)).len := by have := ex7 b; show 0 + 7 ≤ (eEx b).length; omega
 have gb : (eEx b).length = 7 := ex7 b
 have q0 : (0 : Int) < ((2 : Nat) : Int) := by decide
 have q1 : (1 : Int) < ((2 : Nat) : Int) := by decide
 have hm := markOf_fn op ho
 have l1 := shF_len lena (left op)
 have l2 := shF_len lenb (lvF op + 1)
 have h9 := cat_fn [shF a (left op), [mkS op], shF b (lvF op + 1)] (Nat.le_of_ble_eq_true rfl) (by simp; omega)
 rw [show ([shF a (left op), [mkS op], shF b (lvF op + 1)] : List (List Tok)).flatten = shF a (left op) ++ [mkS op] ++ shF b (lvF op + 1) from by simp] at h9
 rcases (by omega : op = 5 ∨ op = 6 ∨ op = 7 ∨ op = 8 ∨ op = 9 ∨ op = 10 ∨ op = 11 ∨ op = 12 ∨ op = 13 ∨ op = 14 ∨ op = 15 ∨ op = 16 ∨ op = 19) with rfl | rfl | rfl | rfl | rfl | rfl | rfl | rfl | rfl | rfl | rfl | rfl | rfl
 ·clear ho
  rw [eEx_mk]
  have hbi : FnD Tryd.prog 68 [.one (.e (eI 5))] (.one (.e (eI 5))) := binds_fn 5 (by decide) (by decide)
  repeat' (first | refine tr_seq ?_ | refine tr_block ?_ | refine tr_skip ?_ | refine tr_unroll 30 ?_ | refine rounds_go ?_ | refine tr_exit ?_ | refine reg (T := tab) tOk hnt rfl (by exact zzt) ?_ | refine regD (T := tab) tOk mixedR hnt rfl (by first | decide +kernel | kernel_rfl) (by exact zzt) ?_ | refine tr_cond rfl (fun hc => ?_) (fun hc => absurd (show true = false from hc) Bool.noConfusion) | refine tr_cond rfl (fun hc => absurd (show false = true from hc) Bool.noConfusion) (fun hc => ?_))
  repeat' first | refine zzs ?_ | refine zzb ?_ | refine zzk ?_
  refine tr_region (zzx hnt rfl ?_ (call rfl rfl rfl rfl rfl rfl rfl hnt (hbi) (zzx hnt rfl ?_ (Lex.nil _)))) ?_
  ·exact zza
  ·exact zza
  repeat' (first | refine tr_seq ?_ | refine tr_block ?_ | refine tr_skip ?_ | refine tr_unroll 30 ?_ | refine rounds_go ?_ | refine tr_exit ?_ | refine reg (T := tab) tOk hnt rfl (by exact zzt) ?_ | refine regD (T := tab) tOk mixedR hnt rfl (by first | decide +kernel | kernel_rfl) (by exact zzt) ?_ | refine tr_cond rfl (fun hc => ?_) (fun hc => absurd (show true = false from hc) Bool.noConfusion) | refine tr_cond rfl (fun hc => absurd (show false = true from hc) Bool.noConfusion) (fun hc => ?_))
  have h1 := insideF (l := 5) (l2 := left 5) rfl pa iha lena
  have h2 := insideF (l := 6) (l2 := lvF 5 + 1) rfl pb ihb lenb
  repeat' first | refine zzs ?_ | refine zzb ?_ | refine zzk ?_
  refine tr_draw (T := tab) tOk hnt mixedR (lexD (T := tab) rfl ?_ (callVD rfl rfl rfl rfl rfl rfl rfl rfl rfl (h1) (lexD (T := tab) rfl ?_ (callVD rfl rfl rfl rfl rfl rfl rfl rfl rfl (hm) (lexD (T := tab) rfl ?_ (callVD rfl rfl rfl rfl rfl rfl rfl rfl rfl (h2) (lexD (T := tab) rfl ?_ (callDU rfl rfl rfl rfl rfl rfl rfl rfl rfl (h9) (lexD (T := tab) rfl ?_ (.nil _)))))))))) (by first | decide +kernel | kernel_rfl) ?_
  ·exact zza
  ·exact zza
  ·exact zza
  ·exact zza
  ·exact zza
  exact tr_ret ⟨.inr rfl, _, _, rfl, zzp, rfl⟩
 ·clear ho
  rw [eEx_mk]
  have hbi : FnD Tryd.prog 68 [.one (.e (eI 6))] (.one (.e (eI 5))) := binds_fn 6 (by decide) (by decide)
  repeat' (first | refine tr_seq ?_ | refine tr_block ?_ | refine tr_skip ?_ | refine tr_unroll 30 ?_ | refine rounds_go ?_ | refine tr_exit ?_ | refine reg (T := tab) tOk hnt rfl (by exact zzt) ?_ | refine regD (T := tab) tOk mixedR hnt rfl (by first | decide +kernel | kernel_rfl) (by exact zzt) ?_ | refine tr_cond rfl (fun hc => ?_) (fun hc => absurd (show true = false from hc) Bool.noConfusion) | refine tr_cond rfl (fun hc => absurd (show false = true from hc) Bool.noConfusion) (fun hc => ?_))
  repeat' first | refine zzs ?_ | refine zzb ?_ | refine zzk ?_
  refine tr_region (zzx hnt rfl ?_ (call rfl rfl rfl rfl rfl rfl rfl hnt (hbi) (zzx hnt rfl ?_ (Lex.nil _)))) ?_
  ·exact zza
  ·exact zza
  repeat' (first | refine tr_seq ?_ | refine tr_block ?_ | refine tr_skip ?_ | refine tr_unroll 30 ?_ | refine rounds_go ?_ | refine tr_exit ?_ | refine reg (T := tab) tOk hnt rfl (by exact zzt) ?_ | refine regD (T := tab) tOk mixedR hnt rfl (by first | decide +kernel | kernel_rfl) (by exact zzt) ?_ | refine tr_cond rfl (fun hc => ?_) (fun hc => absurd (show true = false from hc) Bool.noConfusion) | refine tr_cond rfl (fun hc => absurd (show false = true from hc) Bool.noConfusion) (fun hc => ?_))
  have h1 := insideF (l := 5) (l2 := left 6) rfl pa iha lena
  have h2 := insideF (l := 6) (l2 := lvF 6 + 1) rfl pb ihb lenb
  repeat' first | refine zzs ?_ | refine zzb ?_ | refine zzk ?_
  refine tr_draw (T := tab) tOk hnt mixedR (lexD (T := tab) rfl ?_ (callVD rfl rfl rfl rfl rfl rfl rfl rfl rfl (h1) (lexD (T := tab) rfl ?_ (callVD rfl rfl rfl rfl rfl rfl rfl rfl rfl (hm) (lexD (T := tab) rfl ?_ (callVD rfl rfl rfl rfl rfl rfl rfl rfl rfl (h2) (lexD (T := tab) rfl ?_ (callDU rfl rfl rfl rfl rfl rfl rfl rfl rfl (h9) (lexD (T := tab) rfl ?_ (.nil _)))))))))) (by first | decide +kernel | kernel_rfl) ?_
  ·exact zza
  ·exact zza
  ·exact zza
  ·exact zza
  ·exact zza
  exact tr_ret ⟨.inr rfl, _, _, rfl, zzp, rfl⟩
 ·clear ho
  rw [eEx_mk]
  have hbi : FnD Tryd.prog 68 [.one (.e (eI 7))] (.one (.e (eI 6))) := binds_fn 7 (by decide) (by decide)
  repeat' (first | refine tr_seq ?_ | refine tr_block ?_ | refine tr_skip ?_ | refine tr_unroll 30 ?_ | refine rounds_go ?_ | refine tr_exit ?_ | refine reg (T := tab) tOk hnt rfl (by exact zzt) ?_ | refine regD (T := tab) tOk mixedR hnt rfl (by first | decide +kernel | kernel_rfl) (by exact zzt) ?_ | refine tr_cond rfl (fun hc => ?_) (fun hc => absurd (show true = false from hc) Bool.noConfusion) | refine tr_cond rfl (fun hc => absurd (show false = true from hc) Bool.noConfusion) (fun hc => ?_))
  repeat' first | refine zzs ?_ | refine zzb ?_ | refine zzk ?_
  refine tr_region (zzx hnt rfl ?_ (call rfl rfl rfl rfl rfl rfl rfl hnt (hbi) (zzx hnt rfl ?_ (Lex.nil _)))) ?_
  ·exact zza
  ·exact zza
  repeat' (first | refine tr_seq ?_ | refine tr_block ?_ | refine tr_skip ?_ | refine tr_unroll 30 ?_ | refine rounds_go ?_ | refine tr_exit ?_ | refine reg (T := tab) tOk hnt rfl (by exact zzt) ?_ | refine regD (T := tab) tOk mixedR hnt rfl (by first | decide +kernel | kernel_rfl) (by exact zzt) ?_ | refine tr_cond rfl (fun hc => ?_) (fun hc => absurd (show true = false from hc) Bool.noConfusion) | refine tr_cond rfl (fun hc => absurd (show false = true from hc) Bool.noConfusion) (fun hc => ?_))
  have h1 := insideF (l := 6) (l2 := left 7) rfl pa iha lena
  have h2 := insideF (l := 7) (l2 := lvF 7 + 1) rfl pb ihb lenb
  repeat' first | refine zzs ?_ | refine zzb ?_ | refine zzk ?_
  refine tr_draw (T := tab) tOk hnt mixedR (lexD (T := tab) rfl ?_ (callVD rfl rfl rfl rfl rfl rfl rfl rfl rfl (h1) (lexD (T := tab) rfl ?_ (callVD rfl rfl rfl rfl rfl rfl rfl rfl rfl (hm) (lexD (T := tab) rfl ?_ (callVD rfl rfl rfl rfl rfl rfl rfl rfl rfl (h2) (lexD (T := tab) rfl ?_ (callDU rfl rfl rfl rfl rfl rfl rfl rfl rfl (h9) (lexD (T := tab) rfl ?_ (.nil _)))))))))) (by first | decide +kernel | kernel_rfl) ?_
  ·exact zza
  ·exact zza
  ·exact zza
  ·exact zza
  ·exact zza
  exact tr_ret ⟨.inr rfl, _, _, rfl, zzp, rfl⟩
 ·clear ho
  rw [eEx_mk]
  have hbi : FnD Tryd.prog 68 [.one (.e (eI 8))] (.one (.e (eI 6))) := binds_fn 8 (by decide) (by decide)
  repeat' (first | refine tr_seq ?_ | refine tr_block ?_ | refine tr_skip ?_ | refine tr_unroll 30 ?_ | refine rounds_go ?_ | refine tr_exit ?_ | refine reg (T := tab) tOk hnt rfl (by exact zzt) ?_ | refine regD (T := tab) tOk mixedR hnt rfl (by first | decide +kernel | kernel_rfl) (by exact zzt) ?_ | refine tr_cond rfl (fun hc => ?_) (fun hc => absurd (show true = false from hc) Bool.noConfusion) | refine tr_cond rfl (fun hc => absurd (show false = true from hc) Bool.noConfusion) (fun hc => ?_))
  repeat' first | refine zzs ?_ | refine zzb ?_ | refine zzk ?_
  refine tr_region (zzx hnt rfl ?_ (call rfl rfl rfl rfl rfl rfl rfl hnt (hbi) (zzx hnt rfl ?_ (Lex.nil _)))) ?_
  ·exact zza
  ·exact zza
  repeat' (first | refine tr_seq ?_ | refine tr_block ?_ | refine tr_skip ?_ | refine tr_unroll 30 ?_ | refine rounds_go ?_ | refine tr_exit ?_ | refine reg (T := tab) tOk hnt rfl (by exact zzt) ?_ | refine regD (T := tab) tOk mixedR hnt rfl (by first | decide +kernel | kernel_rfl) (by exact zzt) ?_ | refine tr_cond rfl (fun hc => ?_) (fun hc => absurd (show true = false from hc) Bool.noConfusion) | refine tr_cond rfl (fun hc => absurd (show false = true from hc) Bool.noConfusion) (fun hc => ?_))
  have h1 := insideF (l := 6) (l2 := left 8) rfl pa iha lena
  have h2 := insideF (l := 7) (l2 := lvF 8 + 1) rfl pb ihb lenb
  repeat' first | refine zzs ?_ | refine zzb ?_ | refine zzk ?_
  refine tr_draw (T := tab) tOk hnt mixedR (lexD (T := tab) rfl ?_ (callVD rfl rfl rfl rfl rfl rfl rfl rfl rfl (h1) (lexD (T := tab) rfl ?_ (callVD rfl rfl rfl rfl rfl rfl rfl rfl rfl (hm) (lexD (T := tab) rfl ?_ (callVD rfl rfl rfl rfl rfl rfl rfl rfl rfl (h2) (lexD (T := tab) rfl ?_ (callDU rfl rfl rfl rfl rfl rfl rfl rfl rfl (h9) (lexD (T := tab) rfl ?_ (.nil _)))))))))) (by first | decide +kernel | kernel_rfl) ?_
  ·exact zza
  ·exact zza
  ·exact zza
  ·exact zza
  ·exact zza
  exact tr_ret ⟨.inr rfl, _, _, rfl, zzp, rfl⟩
 ·clear ho
  rw [eEx_mk]
  have hbi : FnD Tryd.prog 68 [.one (.e (eI 9))] (.one (.e (eI 3))) := binds_fn 9 (by decide) (by decide)
  repeat' (first | refine tr_seq ?_ | refine tr_block ?_ | refine tr_skip ?_ | refine tr_unroll 30 ?_ | refine rounds_go ?_ | refine tr_exit ?_ | refine reg (T := tab) tOk hnt rfl (by exact zzt) ?_ | refine regD (T := tab) tOk mixedR hnt rfl (by first | decide +kernel | kernel_rfl) (by exact zzt) ?_ | refine tr_cond rfl (fun hc => ?_) (fun hc => absurd (show true = false from hc) Bool.noConfusion) | refine tr_cond rfl (fun hc => absurd (show false = true from hc) Bool.noConfusion) (fun hc => ?_))
  repeat' first | refine zzs ?_ | refine zzb ?_ | refine zzk ?_
  refine tr_region (zzx hnt rfl ?_ (call rfl rfl rfl rfl rfl rfl rfl hnt (hbi) (zzx hnt rfl ?_ (Lex.nil _)))) ?_
  ·exact zza
  ·exact zza
  repeat' (first | refine tr_seq ?_ | refine tr_block ?_ | refine tr_skip ?_ | refine tr_unroll 30 ?_ | refine rounds_go ?_ | refine tr_exit ?_ | refine reg (T := tab) tOk hnt rfl (by exact zzt) ?_ | refine regD (T := tab) tOk mixedR hnt rfl (by first | decide +kernel | kernel_rfl) (by exact zzt) ?_ | refine tr_cond rfl (fun hc => ?_) (fun hc => absurd (show true = false from hc) Bool.noConfusion) | refine tr_cond rfl (fun hc => absurd (show false = true from hc) Bool.noConfusion) (fun hc => ?_))
  have h1 := insideF (l := 4) (l2 := left 9) rfl pa iha lena
  have h2 := insideF (l := 4) (l2 := lvF 9 + 1) rfl pb ihb lenb
  repeat' first | refine zzs ?_ | refine zzb ?_ | refine zzk ?_
  refine tr_draw (T := tab) tOk hnt mixedR (lexD (T := tab) rfl ?_ (callVD rfl rfl rfl rfl rfl rfl rfl rfl rfl (h1) (lexD (T := tab) rfl ?_ (callVD rfl rfl rfl rfl rfl rfl rfl rfl rfl (hm) (lexD (T := tab) rfl ?_ (callVD rfl rfl rfl rfl rfl rfl rfl rfl rfl (h2) (lexD (T := tab) rfl ?_ (callDU rfl rfl rfl rfl rfl rfl rfl rfl rfl (h9) (lexD (T := tab) rfl ?_ (.nil _)))))))))) (by first | decide +kernel | kernel_rfl) ?_
  ·exact zza
  ·exact zza
  ·exact zza
  ·exact zza
  ·exact zza
  exact tr_ret ⟨.inr rfl, _, _, rfl, zzp, rfl⟩
 ·clear ho
  rw [eEx_mk]
  have hbi : FnD Tryd.prog 68 [.one (.e (eI 10))] (.one (.e (eI 3))) := binds_fn 10 (by decide) (by decide)
  repeat' (first | refine tr_seq ?_ | refine tr_block ?_ | refine tr_skip ?_ | refine tr_unroll 30 ?_ | refine rounds_go ?_ | refine tr_exit ?_ | refine reg (T := tab) tOk hnt rfl (by exact zzt) ?_ | refine regD (T := tab) tOk mixedR hnt rfl (by first | decide +kernel | kernel_rfl) (by exact zzt) ?_ | refine tr_cond rfl (fun hc => ?_) (fun hc => absurd (show true = false from hc) Bool.noConfusion) | refine tr_cond rfl (fun hc => absurd (show false = true from hc) Bool.noConfusion) (fun hc => ?_))
  repeat' first | refine zzs ?_ | refine zzb ?_ | refine zzk ?_
  refine tr_region (zzx hnt rfl ?_ (call rfl rfl rfl rfl rfl rfl rfl hnt (hbi) (zzx hnt rfl ?_ (Lex.nil _)))) ?_
  ·exact zza
  ·exact zza
  repeat' (first | refine tr_seq ?_ | refine tr_block ?_ | refine tr_skip ?_ | refine tr_unroll 30 ?_ | refine rounds_go ?_ | refine tr_exit ?_ | refine reg (T := tab) tOk hnt rfl (by exact zzt) ?_ | refine regD (T := tab) tOk mixedR hnt rfl (by first | decide +kernel | kernel_rfl) (by exact zzt) ?_ | refine tr_cond rfl (fun hc => ?_) (fun hc => absurd (show true = false from hc) Bool.noConfusion) | refine tr_cond rfl (fun hc => absurd (show false = true from hc) Bool.noConfusion) (fun hc => ?_))
  have h1 := insideF (l := 4) (l2 := left 10) rfl pa iha lena
  have h2 := insideF (l := 4) (l2 := lvF 10 + 1) rfl pb ihb lenb
  repeat' first | refine zzs ?_ | refine zzb ?_ | refine zzk ?_
  refine tr_draw (T := tab) tOk hnt mixedR (lexD (T := tab) rfl ?_ (callVD rfl rfl rfl rfl rfl rfl rfl rfl rfl (h1) (lexD (T := tab) rfl ?_ (callVD rfl rfl rfl rfl rfl rfl rfl rfl rfl (hm) (lexD (T := tab) rfl ?_ (callVD rfl rfl rfl rfl rfl rfl rfl rfl rfl (h2) (lexD (T := tab) rfl ?_ (callDU rfl rfl rfl rfl rfl rfl rfl rfl rfl (h9) (lexD (T := tab) rfl ?_ (.nil _)))))))))) (by first | decide +kernel | kernel_rfl) ?_
  ·exact zza
  ·exact zza
  ·exact zza
  ·exact zza
  ·exact zza
  exact tr_ret ⟨.inr rfl, _, _, rfl, zzp, rfl⟩
 ·clear ho
  rw [eEx_mk]
  have hbi : FnD Tryd.prog 68 [.one (.e (eI 11))] (.one (.e (eI 3))) := binds_fn 11 (by decide) (by decide)
  repeat' (first | refine tr_seq ?_ | refine tr_block ?_ | refine tr_skip ?_ | refine tr_unroll 30 ?_ | refine rounds_go ?_ | refine tr_exit ?_ | refine reg (T := tab) tOk hnt rfl (by exact zzt) ?_ | refine regD (T := tab) tOk mixedR hnt rfl (by first | decide +kernel | kernel_rfl) (by exact zzt) ?_ | refine tr_cond rfl (fun hc => ?_) (fun hc => absurd (show true = false from hc) Bool.noConfusion) | refine tr_cond rfl (fun hc => absurd (show false = true from hc) Bool.noConfusion) (fun hc => ?_))
  repeat' first | refine zzs ?_ | refine zzb ?_ | refine zzk ?_
  refine tr_region (zzx hnt rfl ?_ (call rfl rfl rfl rfl rfl rfl rfl hnt (hbi) (zzx hnt rfl ?_ (Lex.nil _)))) ?_
  ·exact zza
  ·exact zza
  repeat' (first | refine tr_seq ?_ | refine tr_block ?_ | refine tr_skip ?_ | refine tr_unroll 30 ?_ | refine rounds_go ?_ | refine tr_exit ?_ | refine reg (T := tab) tOk hnt rfl (by exact zzt) ?_ | refine regD (T := tab) tOk mixedR hnt rfl (by first | decide +kernel | kernel_rfl) (by exact zzt) ?_ | refine tr_cond rfl (fun hc => ?_) (fun hc => absurd (show true = false from hc) Bool.noConfusion) | refine tr_cond rfl (fun hc => absurd (show false = true from hc) Bool.noConfusion) (fun hc => ?_))
  have h1 := insideF (l := 4) (l2 := left 11) rfl pa iha lena
  have h2 := insideF (l := 4) (l2 := lvF 11 + 1) rfl pb ihb lenb
  repeat' first | refine zzs ?_ | refine zzb ?_ | refine zzk ?_
  refine tr_draw (T := tab) tOk hnt mixedR (lexD (T := tab) rfl ?_ (callVD rfl rfl rfl rfl rfl rfl rfl rfl rfl (h1) (lexD (T := tab) rfl ?_ (callVD rfl rfl rfl rfl rfl rfl rfl rfl rfl (hm) (lexD (T := tab) rfl ?_ (callVD rfl rfl rfl rfl rfl rfl rfl rfl rfl (h2) (lexD (T := tab) rfl ?_ (callDU rfl rfl rfl rfl rfl rfl rfl rfl rfl (h9) (lexD (T := tab) rfl ?_ (.nil _)))))))))) (by first | decide +kernel | kernel_rfl) ?_
  ·exact zza
  ·exact zza
  ·exact zza
  ·exact zza
  ·exact zza
  exact tr_ret ⟨.inr rfl, _, _, rfl, zzp, rfl⟩
 ·clear ho
  rw [eEx_mk]
  have hbi : FnD Tryd.prog 68 [.one (.e (eI 12))] (.one (.e (eI 3))) := binds_fn 12 (by decide) (by decide)
  repeat' (first | refine tr_seq ?_ | refine tr_block ?_ | refine tr_skip ?_ | refine tr_unroll 30 ?_ | refine rounds_go ?_ | refine tr_exit ?_ | refine reg (T := tab) tOk hnt rfl (by exact zzt) ?_ | refine regD (T := tab) tOk mixedR hnt rfl (by first | decide +kernel | kernel_rfl) (by exact zzt) ?_ | refine tr_cond rfl (fun hc => ?_) (fun hc => absurd (show true = false from hc) Bool.noConfusion) | refine tr_cond rfl (fun hc => absurd (show false = true from hc) Bool.noConfusion) (fun hc => ?_))
  repeat' first | refine zzs ?_ | refine zzb ?_ | refine zzk ?_
  refine tr_region (zzx hnt rfl ?_ (call rfl rfl rfl rfl rfl rfl rfl hnt (hbi) (zzx hnt rfl ?_ (Lex.nil _)))) ?_
  ·exact zza
  ·exact zza
  repeat' (first | refine tr_seq ?_ | refine tr_block ?_ | refine tr_skip ?_ | refine tr_unroll 30 ?_ | refine rounds_go ?_ | refine tr_exit ?_ | refine reg (T := tab) tOk hnt rfl (by exact zzt) ?_ | refine regD (T := tab) tOk mixedR hnt rfl (by first | decide +kernel | kernel_rfl) (by exact zzt) ?_ | refine tr_cond rfl (fun hc => ?_) (fun hc => absurd (show true = false from hc) Bool.noConfusion) | refine tr_cond rfl (fun hc => absurd (show false = true from hc) Bool.noConfusion) (fun hc => ?_))
  have h1 := insideF (l := 4) (l2 := left 12) rfl pa iha lena
  have h2 := insideF (l := 4) (l2 := lvF 12 + 1) rfl pb ihb lenb
  repeat' first | refine zzs ?_ | refine zzb ?_ | refine zzk ?_
  refine tr_draw (T := tab) tOk hnt mixedR (lexD (T := tab) rfl ?_ (callVD rfl rfl rfl rfl rfl rfl rfl rfl rfl (h1) (lexD (T := tab) rfl ?_ (callVD rfl rfl rfl rfl rfl rfl rfl rfl rfl (hm) (lexD (T := tab) rfl ?_ (callVD rfl rfl rfl rfl rfl rfl rfl rfl rfl (h2) (lexD (T := tab) rfl ?_ (callDU rfl rfl rfl rfl rfl rfl rfl rfl rfl (h9) (lexD (T := tab) rfl ?_ (.nil _)))))))))) (by first | decide +kernel | kernel_rfl) ?_
  ·exact zza
  ·exact zza
  ·exact zza
  ·exact zza
  ·exact zza
  exact tr_ret ⟨.inr rfl, _, _, rfl, zzp, rfl⟩
 ·clear ho
  rw [eEx_mk]
  have hbi : FnD Tryd.prog 68 [.one (.e (eI 13))] (.one (.e (eI 3))) := binds_fn 13 (by decide) (by decide)
  repeat' (first | refine tr_seq ?_ | refine tr_block ?_ | refine tr_skip ?_ | refine tr_unroll 30 ?_ | refine rounds_go ?_ | refine tr_exit ?_ | refine reg (T := tab) tOk hnt rfl (by exact zzt) ?_ | refine regD (T := tab) tOk mixedR hnt rfl (by first | decide +kernel | kernel_rfl) (by exact zzt) ?_ | refine tr_cond rfl (fun hc => ?_) (fun hc => absurd (show true = false from hc) Bool.noConfusion) | refine tr_cond rfl (fun hc => absurd (show false = true from hc) Bool.noConfusion) (fun hc => ?_))
  repeat' first | refine zzs ?_ | refine zzb ?_ | refine zzk ?_
  refine tr_region (zzx hnt rfl ?_ (call rfl rfl rfl rfl rfl rfl rfl hnt (hbi) (zzx hnt rfl ?_ (Lex.nil _)))) ?_
  ·exact zza
  ·exact zza
  repeat' (first | refine tr_seq ?_ | refine tr_block ?_ | refine tr_skip ?_ | refine tr_unroll 30 ?_ | refine rounds_go ?_ | refine tr_exit ?_ | refine reg (T := tab) tOk hnt rfl (by exact zzt) ?_ | refine regD (T := tab) tOk mixedR hnt rfl (by first | decide +kernel | kernel_rfl) (by exact zzt) ?_ | refine tr_cond rfl (fun hc => ?_) (fun hc => absurd (show true = false from hc) Bool.noConfusion) | refine tr_cond rfl (fun hc => absurd (show false = true from hc) Bool.noConfusion) (fun hc => ?_))
  have h1 := insideF (l := 4) (l2 := left 13) rfl pa iha lena
  have h2 := insideF (l := 4) (l2 := lvF 13 + 1) rfl pb ihb lenb
  repeat' first | refine zzs ?_ | refine zzb ?_ | refine zzk ?_
  refine tr_draw (T := tab) tOk hnt mixedR (lexD (T := tab) rfl ?_ (callVD rfl rfl rfl rfl rfl rfl rfl rfl rfl (h1) (lexD (T := tab) rfl ?_ (callVD rfl rfl rfl rfl rfl rfl rfl rfl rfl (hm) (lexD (T := tab) rfl ?_ (callVD rfl rfl rfl rfl rfl rfl rfl rfl rfl (h2) (lexD (T := tab) rfl ?_ (callDU rfl rfl rfl rfl rfl rfl rfl rfl rfl (h9) (lexD (T := tab) rfl ?_ (.nil _)))))))))) (by first | decide +kernel | kernel_rfl) ?_
  ·exact zza
  ·exact zza
  ·exact zza
  ·exact zza
  ·exact zza
  exact tr_ret ⟨.inr rfl, _, _, rfl, zzp, rfl⟩
 ·clear ho
  rw [eEx_mk]
  have hbi : FnD Tryd.prog 68 [.one (.e (eI 14))] (.one (.e (eI 3))) := binds_fn 14 (by decide) (by decide)
  repeat' (first | refine tr_seq ?_ | refine tr_block ?_ | refine tr_skip ?_ | refine tr_unroll 30 ?_ | refine rounds_go ?_ | refine tr_exit ?_ | refine reg (T := tab) tOk hnt rfl (by exact zzt) ?_ | refine regD (T := tab) tOk mixedR hnt rfl (by first | decide +kernel | kernel_rfl) (by exact zzt) ?_ | refine tr_cond rfl (fun hc => ?_) (fun hc => absurd (show true = false from hc) Bool.noConfusion) | refine tr_cond rfl (fun hc => absurd (show false = true from hc) Bool.noConfusion) (fun hc => ?_))
  repeat' first | refine zzs ?_ | refine zzb ?_ | refine zzk ?_
  refine tr_region (zzx hnt rfl ?_ (call rfl rfl rfl rfl rfl rfl rfl hnt (hbi) (zzx hnt rfl ?_ (Lex.nil _)))) ?_
  ·exact zza
  ·exact zza
  repeat' (first | refine tr_seq ?_ | refine tr_block ?_ | refine tr_skip ?_ | refine tr_unroll 30 ?_ | refine rounds_go ?_ | refine tr_exit ?_ | refine reg (T := tab) tOk hnt rfl (by exact zzt) ?_ | refine regD (T := tab) tOk mixedR hnt rfl (by first | decide +kernel | kernel_rfl) (by exact zzt) ?_ | refine tr_cond rfl (fun hc => ?_) (fun hc => absurd (show true = false from hc) Bool.noConfusion) | refine tr_cond rfl (fun hc => absurd (show false = true from hc) Bool.noConfusion) (fun hc => ?_))
  have h1 := insideF (l := 4) (l2 := left 14) rfl pa iha lena
  have h2 := insideF (l := 4) (l2 := lvF 14 + 1) rfl pb ihb lenb
  repeat' first | refine zzs ?_ | refine zzb ?_ | refine zzk ?_
  refine tr_draw (T := tab) tOk hnt mixedR (lexD (T := tab) rfl ?_ (callVD rfl rfl rfl rfl rfl rfl rfl rfl rfl (h1) (lexD (T := tab) rfl ?_ (callVD rfl rfl rfl rfl rfl rfl rfl rfl rfl (hm) (lexD (T := tab) rfl ?_ (callVD rfl rfl rfl rfl rfl rfl rfl rfl rfl (h2) (lexD (T := tab) rfl ?_ (callDU rfl rfl rfl rfl rfl rfl rfl rfl rfl (h9) (lexD (T := tab) rfl ?_ (.nil _)))))))))) (by first | decide +kernel | kernel_rfl) ?_
  ·exact zza
  ·exact zza
  ·exact zza
  ·exact zza
  ·exact zza
  exact tr_ret ⟨.inr rfl, _, _, rfl, zzp, rfl⟩
 ·clear ho
  rw [eEx_mk]
  have hbi : FnD Tryd.prog 68 [.one (.e (eI 15))] (.one (.e (eI 1))) := binds_fn 15 (by decide) (by decide)
  repeat' (first | refine tr_seq ?_ | refine tr_block ?_ | refine tr_skip ?_ | refine tr_unroll 30 ?_ | refine rounds_go ?_ | refine tr_exit ?_ | refine reg (T := tab) tOk hnt rfl (by exact zzt) ?_ | refine regD (T := tab) tOk mixedR hnt rfl (by first | decide +kernel | kernel_rfl) (by exact zzt) ?_ | refine tr_cond rfl (fun hc => ?_) (fun hc => absurd (show true = false from hc) Bool.noConfusion) | refine tr_cond rfl (fun hc => absurd (show false = true from hc) Bool.noConfusion) (fun hc => ?_))
  repeat' first | refine zzs ?_ | refine zzb ?_ | refine zzk ?_
  refine tr_region (zzx hnt rfl ?_ (call rfl rfl rfl rfl rfl rfl rfl hnt (hbi) (zzx hnt rfl ?_ (Lex.nil _)))) ?_
  ·exact zza
  ·exact zza
  repeat' (first | refine tr_seq ?_ | refine tr_block ?_ | refine tr_skip ?_ | refine tr_unroll 30 ?_ | refine rounds_go ?_ | refine tr_exit ?_ | refine reg (T := tab) tOk hnt rfl (by exact zzt) ?_ | refine regD (T := tab) tOk mixedR hnt rfl (by first | decide +kernel | kernel_rfl) (by exact zzt) ?_ | refine tr_cond rfl (fun hc => ?_) (fun hc => absurd (show true = false from hc) Bool.noConfusion) | refine tr_cond rfl (fun hc => absurd (show false = true from hc) Bool.noConfusion) (fun hc => ?_))
  have h1 := insideF (l := 1) (l2 := left 15) rfl pa iha lena
  have h2 := insideF (l := 2) (l2 := lvF 15 + 1) rfl pb ihb lenb
  repeat' first | refine zzs ?_ | refine zzb ?_ | refine zzk ?_
  refine tr_draw (T := tab) tOk hnt mixedR (lexD (T := tab) rfl ?_ (callVD rfl rfl rfl rfl rfl rfl rfl rfl rfl (h1) (lexD (T := tab) rfl ?_ (callVD rfl rfl rfl rfl rfl rfl rfl rfl rfl (hm) (lexD (T := tab) rfl ?_ (callVD rfl rfl rfl rfl rfl rfl rfl rfl rfl (h2) (lexD (T := tab) rfl ?_ (callDU rfl rfl rfl rfl rfl rfl rfl rfl rfl (h9) (lexD (T := tab) rfl ?_ (.nil _)))))))))) (by first | decide +kernel | kernel_rfl) ?_
  ·exact zza
  ·exact zza
  ·exact zza
  ·exact zza
  ·exact zza
  exact tr_ret ⟨.inr rfl, _, _, rfl, zzp, rfl⟩
 ·clear ho
  rw [eEx_mk]
  have hbi : FnD Tryd.prog 68 [.one (.e (eI 16))] (.one (.e (eI 0))) := binds_fn 16 (by decide) (by decide)
  repeat' (first | refine tr_seq ?_ | refine tr_block ?_ | refine tr_skip ?_ | refine tr_unroll 30 ?_ | refine rounds_go ?_ | refine tr_exit ?_ | refine reg (T := tab) tOk hnt rfl (by exact zzt) ?_ | refine regD (T := tab) tOk mixedR hnt rfl (by first | decide +kernel | kernel_rfl) (by exact zzt) ?_ | refine tr_cond rfl (fun hc => ?_) (fun hc => absurd (show true = false from hc) Bool.noConfusion) | refine tr_cond rfl (fun hc => absurd (show false = true from hc) Bool.noConfusion) (fun hc => ?_))
  repeat' first | refine zzs ?_ | refine zzb ?_ | refine zzk ?_
  refine tr_region (zzx hnt rfl ?_ (call rfl rfl rfl rfl rfl rfl rfl hnt (hbi) (zzx hnt rfl ?_ (Lex.nil _)))) ?_
  ·exact zza
  ·exact zza
  repeat' (first | refine tr_seq ?_ | refine tr_block ?_ | refine tr_skip ?_ | refine tr_unroll 30 ?_ | refine rounds_go ?_ | refine tr_exit ?_ | refine reg (T := tab) tOk hnt rfl (by exact zzt) ?_ | refine regD (T := tab) tOk mixedR hnt rfl (by first | decide +kernel | kernel_rfl) (by exact zzt) ?_ | refine tr_cond rfl (fun hc => ?_) (fun hc => absurd (show true = false from hc) Bool.noConfusion) | refine tr_cond rfl (fun hc => absurd (show false = true from hc) Bool.noConfusion) (fun hc => ?_))
  have h1 := insideF (l := 0) (l2 := left 16) rfl pa iha lena
  have h2 := insideF (l := 1) (l2 := lvF 16 + 1) rfl pb ihb lenb
  repeat' first | refine zzs ?_ | refine zzb ?_ | refine zzk ?_
  refine tr_draw (T := tab) tOk hnt mixedR (lexD (T := tab) rfl ?_ (callVD rfl rfl rfl rfl rfl rfl rfl rfl rfl (h1) (lexD (T := tab) rfl ?_ (callVD rfl rfl rfl rfl rfl rfl rfl rfl rfl (hm) (lexD (T := tab) rfl ?_ (callVD rfl rfl rfl rfl rfl rfl rfl rfl rfl (h2) (lexD (T := tab) rfl ?_ (callDU rfl rfl rfl rfl rfl rfl rfl rfl rfl (h9) (lexD (T := tab) rfl ?_ (.nil _)))))))))) (by first | decide +kernel | kernel_rfl) ?_
  ·exact zza
  ·exact zza
  ·exact zza
  ·exact zza
  ·exact zza
  exact tr_ret ⟨.inr rfl, _, _, rfl, zzp, rfl⟩
 ·clear ho
  rw [eEx_mk]
  have hbi : FnD Tryd.prog 68 [.one (.e (eI 19))] (.one (.e (eI 4))) := binds_fn 19 (by decide) (by decide)
  repeat' (first | refine tr_seq ?_ | refine tr_block ?_ | refine tr_skip ?_ | refine tr_unroll 30 ?_ | refine rounds_go ?_ | refine tr_exit ?_ | refine reg (T := tab) tOk hnt rfl (by exact zzt) ?_ | refine regD (T := tab) tOk mixedR hnt rfl (by first | decide +kernel | kernel_rfl) (by exact zzt) ?_ | refine tr_cond rfl (fun hc => ?_) (fun hc => absurd (show true = false from hc) Bool.noConfusion) | refine tr_cond rfl (fun hc => absurd (show false = true from hc) Bool.noConfusion) (fun hc => ?_))
  repeat' first | refine zzs ?_ | refine zzb ?_ | refine zzk ?_
  refine tr_region (zzx hnt rfl ?_ (call rfl rfl rfl rfl rfl rfl rfl hnt (hbi) (zzx hnt rfl ?_ (Lex.nil _)))) ?_
  ·exact zza
  ·exact zza
  repeat' (first | refine tr_seq ?_ | refine tr_block ?_ | refine tr_skip ?_ | refine tr_unroll 30 ?_ | refine rounds_go ?_ | refine tr_exit ?_ | refine reg (T := tab) tOk hnt rfl (by exact zzt) ?_ | refine regD (T := tab) tOk mixedR hnt rfl (by first | decide +kernel | kernel_rfl) (by exact zzt) ?_ | refine tr_cond rfl (fun hc => ?_) (fun hc => absurd (show true = false from hc) Bool.noConfusion) | refine tr_cond rfl (fun hc => absurd (show false = true from hc) Bool.noConfusion) (fun hc => ?_))
  have h1 := insideF (l := 4) (l2 := left 19) rfl pa iha lena
  have h2 := insideF (l := 5) (l2 := lvF 19 + 1) rfl pb ihb lenb
  repeat' first | refine zzs ?_ | refine zzb ?_ | refine zzk ?_
  refine tr_draw (T := tab) tOk hnt mixedR (lexD (T := tab) rfl ?_ (callVD rfl rfl rfl rfl rfl rfl rfl rfl rfl (h1) (lexD (T := tab) rfl ?_ (callVD rfl rfl rfl rfl rfl rfl rfl rfl rfl (hm) (lexD (T := tab) rfl ?_ (callVD rfl rfl rfl rfl rfl rfl rfl rfl rfl (h2) (lexD (T := tab) rfl ?_ (callDU rfl rfl rfl rfl rfl rfl rfl rfl rfl (h9) (lexD (T := tab) rfl ?_ (.nil _)))))))))) (by first | decide +kernel | kernel_rfl) ?_
  ·exact zza
  ·exact zza
  ·exact zza
  ·exact zza
  ·exact zza
  exact tr_ret ⟨.inr rfl, _, _, rfl, zzp, rfl⟩
end Go.Proofs.YtjabmeffgbaglaaDoor
namespace Go.Proofs.YtjabmeffgbaglaaDoor
open Go Go.RowKit Go.Proofs.YtjabmeffgbaglaaDoor.Ab
set_option linter.unusedSimpArgs false
set_option linter.unusedVariables false
theorem chk_bool {v : Val} (h : chk v = 0) (hk : v.k = 1) : v.i = 0 ∨ v.i = 1 := by
 unfold chk at h
 repeat' split at h
 all_goals first | cases h; done | omega
theorem lvF_pos (op : Int) : 1 ≤ lvF op := by
 unfold lvF
 repeat' split
 all_goals omega
theorem shF_lo {x : Ex} {l : Int} (h : l ≤ lvF x.op) : shF x l = shX x := if_neg (by dsimp only; omega)
theorem shF_hi {x : Ex} {l : Int} (h : lvF x.op < l) : shF x l = sgT [40] :: shX x ++ [sgT [41]] := if_pos h
theorem shX_lit (v : Val) (n : Byt) : shX (.mk 1 v n []) = [ltT v] := by rw [shX_eq]; rfl
theorem shX_col (v : Val) (n : Byt) : shX (.mk 2 v n []) = [⟨1, n, 0, 0⟩] := by rw [shX_eq]; rfl
theorem shX_neg (v : Val) (n : Byt) (a : Ex) : shX (.mk 3 v n [a]) = [sgT [45]] ++ shF a (lvF 3) := by rw [shX_eq, shL_map]; rfl
theorem shX_not (v : Val) (n : Byt) (a : Ex) : shX (.mk 4 v n [a]) = [wdT [78, 79, 84]] ++ shF a (lvF 4) := by rw [shX_eq, shL_map]; rfl
theorem shX_isn (v : Val) (n : Byt) (a : Ex) : shX (.mk 17 v n [a]) = shF a 5 ++ [wdT [73, 83], wdT [78, 85, 76, 76]] := by rw [shX_eq, shL_map]; rfl
theorem shX_lng (v : Val) (n : Byt) (a : Ex) : shX (.mk 18 v n [a]) = [wdT [76, 69, 78, 71, 84, 72], sgT [40]] ++ shX a ++ [sgT [41]] := by rw [shX_eq, shL_map]; rfl
theorem shX_coa (v : Val) (n : Byt) (a b : Ex) : shX (.mk 20 v n [a, b]) = [wdT [67, 79, 65, 76, 69, 83, 67, 69], sgT [40]] ++ shX a ++ [sgT [44]] ++ shX b ++ [sgT [41]] := by rw [shX_eq, shL_map]; rfl
theorem shX_bin {op : Int} (ho : (5 ≤ op ∧ op ≤ 16) ∨ op = 19) (v : Val) (n : Byt) (a b : Ex) : shX (.mk op v n [a, b]) = shF a (left op) ++ [mkS op] ++ shF b (lvF op + 1) := by
 rw [shX_eq, shL_map]
 show shJ op v n _ = _
 unfold shJ
 rw [if_neg (by omega), if_neg (by omega), if_neg (by omega), if_neg (by omega), if_neg (by omega), if_neg (by omega), if_neg (by omega)]
 rfl
theorem len0 {ar : List Ex} {k : Int} (h : (ar.length : Int) = k) (hk : k = 0) : ar = [] := List.eq_nil_of_length_eq_zero (by omega)
theorem len1 {ar : List Ex} {k : Int} (h : (ar.length : Int) = k) (hk : k = 1) : ∃ a, ar = [a] := by
 rcases ar with _ | ⟨a, _ | ⟨b, r⟩⟩
 ·simp only [List.length_nil] at h; omega
 ·exact ⟨a, rfl⟩
 ·simp only [List.length_cons] at h; omega
theorem len2 {ar : List Ex} {k : Int} (h : (ar.length : Int) = k) (hk : k = 2) : ∃ a b, ar = [a, b] := by
 rcases ar with _ | ⟨a, _ | ⟨b, _ | ⟨c, r⟩⟩⟩
 ·simp only [List.length_nil] at h; omega
 ·simp only [List.length_cons, List.length_nil] at h; omega
 ·exact ⟨a, b, rfl⟩
 ·simp only [List.length_cons] at h; omega
theorem want2 {op : Int} (ho : (5 ≤ op ∧ op ≤ 16) ∨ op = 19) : wantF op = 2 := by
 rcases (by omega : op = 5 ∨ op = 6 ∨ op = 7 ∨ op = 8 ∨ op = 9 ∨ op = 10 ∨ op = 11 ∨ op = 12 ∨ op = 13 ∨ op = 14 ∨ op = 15 ∨ op = 16 ∨ op = 19) with rfl | rfl | rfl | rfl | rfl | rfl | rfl | rfl | rfl | rfl | rfl | rfl | rfl <;> rfl
theorem shapes {x : Ex} (h : nodeF x = 0) : ∃ op v n, (op = 1 ∧ x = .mk op v n [] ∧ chk v = 0) ∨ (op = 2 ∧ x = .mk op v n []) ∨ (∃ a, (op = 3 ∨ op = 4 ∨ op = 17 ∨ op = 18) ∧ x = .mk op v n [a]) ∨ ∃ a b, (op = 20 ∨ (5 ≤ op ∧ op ≤ 16) ∨ op = 19) ∧ x = .mk op v n [a, b] := by
 obtain ⟨op, v, n, ar⟩ := x
 obtain ⟨k1, k2, k3, k4⟩ := node_ok2 h
 have k1 : 1 ≤ op := k1
 have k2 : op ≤ 20 := k2
 have k3 : (ar.length : Int) = wantF op := k3
 have k4 : op = 1 → chk v = 0 ∧ 0 ≤ v.i := k4
 refine ⟨op, v, n, ?_⟩
 by_cases h1 : op = 1
 ·subst h1; exact .inl ⟨rfl, by rw [len0 k3 rfl], (k4 rfl).1⟩
 by_cases h2 : op = 2
 ·subst h2; exact .inr (.inl ⟨rfl, by rw [len0 k3 rfl]⟩)
 by_cases h3 : op = 3 ∨ op = 4 ∨ op = 17 ∨ op = 18
 ·obtain ⟨a, e⟩ := len1 k3 (by rcases h3 with rfl | rfl | rfl | rfl <;> rfl)
  exact .inr (.inr (.inl ⟨a, h3, by rw [e]⟩))
 ·obtain ⟨a, b, e⟩ := len2 k3 (by
   by_cases h4 : op = 20
   ·subst h4; rfl
   ·exact want2 (by omega))
  exact .inr (.inr (.inr ⟨a, b, by omega, by rw [e]⟩))
theorem showP {x : Ex} (m : Nat) (hm : nodes x ≤ m) (h40 : nodes x ≤ 40) (hn : ndF x = 0) (ih : ∀ a ∈ x.ar, ∀ l : Int, FnD Tryd.prog 78 [.agg (.es (eEx a)), .one (.e (eI l))] (.one (.e (eTks (shF a l))))) (l : Int) (hl : l ≤ lvF x.op) : FnD Tryd.prog 78 [.agg (.es (eEx x)), .one (.e (eI l))] (.one (.e (eTks (shX x)))) := by
 have lens : ∀ a ∈ x.ar, ∀ l : Int, (shF a l).length ≤ 1000 := fun a ha l => by
  have h1 := kid_nodes (m := 40) (x := x) (by omega) ha
  have h2 := shX_len 40 a h1 (.inr trivial)
  exact shF_len (by omega) l
 obtain ⟨op, v, n, h⟩ := shapes (nd_zero2 hn).1
 rcases h with ⟨rfl, rfl, _⟩ | ⟨rfl, rfl⟩ | ⟨a, ho, rfl⟩ | ⟨a, b, ho, rfl⟩
 ·rw [shX_lit]; exact show_lit l v n hl
 ·rw [shX_col]; exact show_col l v n hl
 ·have ia := ih a (by simp [Ex.ar])
  have la := lens a (by simp [Ex.ar])
  rcases ho with rfl | rfl | rfl | rfl
  ·rw [shX_neg]; exact show_neg l v n a ia la hl
  ·rw [shX_not]; exact show_not l v n a ia la hl
  ·rw [shX_isn]; exact show_isn l v n a ia la hl
  ·rw [shX_lng, ← shF_lo (x := a) (lvF_pos _)]; exact show_len l v n a ia la hl
 ·have ia := ih a (by simp [Ex.ar])
  have la := lens a (by simp [Ex.ar])
  have ib := ih b (by simp [Ex.ar])
  have lb := lens b (by simp [Ex.ar])
  rcases ho with rfl | ho
  ·rw [shX_coa, ← shF_lo (x := a) (lvF_pos _), ← shF_lo (x := b) (lvF_pos _)]; exact show_coa l v n a ia la b ib lb hl
  ·rw [shX_bin ho]; exact show_bin op ho l v n a ia la b ib lb hl
theorem show_all : ∀ (m : Nat) (x : Ex), nodes x ≤ m → nodes x ≤ 40 → ndF x = 0 → ∀ l : Int, FnD Tryd.prog 78 [.agg (.es (eEx x)), .one (.e (eI l))] (.one (.e (eTks (shF x l))))
 | 0, x, h, _, _ => absurd h (by have := nodes_pos x; omega)
 | m + 1, x, h, h40, hn => fun l => by
  have hP := showP (m + 1) h h40 hn (fun a ha => show_all m a (kid_nodes h ha) (by have := kid_nodes (m := 40) (x := x) (by omega) ha; omega) ((nd_zero2 hn).2 a ha))
  by_cases hl : l ≤ lvF x.op
  ·rw [shF_lo hl]
   exact hP l hl
  ·rw [shF_hi (by omega)]
   have h1 := hP 1 (lvF_pos _)
   obtain ⟨k1, k2, _⟩ := node_ok2 (nd_zero2 hn).1
   have h2 := shX_len 40 x h40 (.inr trivial)
   obtain ⟨op, v, n, ar⟩ := x
   exact show_par l op v n ar (shX (.mk op v n ar)) k1 k2 h1 (by omega) (by have h3 : ¬ l ≤ lvF op := hl; omega)
theorem shown_all : ∀ (m : Nat) (x : Ex), nodes x ≤ m → nodes x ≤ 40 → ndF x = 0 → Shown x
 | 0, x, h, _, _ => absurd h (by have := nodes_pos x; omega)
 | m + 1, x, h, h40, hn => by
  have ih := fun a ha => shown_all m a (kid_nodes h ha) (by have := kid_nodes (m := 40) (x := x) (by omega) ha; omega) ((nd_zero2 hn).2 a ha)
  have ops : ∀ a ∈ x.ar, 1 ≤ a.op ∧ a.op ≤ 20 := fun a ha => by
   obtain ⟨k1, k2, _⟩ := node_ok2 (nd_zero2 ((nd_zero2 hn).2 a ha)).1
   exact ⟨k1, k2⟩
  have lens : ∀ a ∈ x.ar, (shX a).length ≤ 998 := fun a ha => by
   have h1 := kid_nodes (m := 40) (x := x) (by omega) ha
   have h2 := shX_len 40 a h1 (.inr trivial)
   omega
  unfold Shown
  obtain ⟨op, v, n, hs⟩ := shapes (nd_zero2 hn).1
  rcases hs with ⟨rfl, rfl, hc⟩ | ⟨rfl, rfl⟩ | ⟨a, ho, rfl⟩ | ⟨a, b, ho, rfl⟩
  ·rw [shX_lit]; exact shown_lit v n (chk_bool hc)
  ·rw [shX_col]; exact shown_col v n
  ·have ia := ih a (by simp [Ex.ar])
   have la := lens a (by simp [Ex.ar])
   have pa := ops a (by simp [Ex.ar])
   rcases ho with rfl | rfl | rfl | rfl
   ·rw [shX_neg]; exact shown_neg v n a pa ia la
   ·rw [shX_not]; exact shown_not v n a pa ia la
   ·rw [shX_isn]; exact shown_isn v n a pa ia la
   ·rw [shX_lng]; exact shown_len v n a pa ia la
  ·have ia := ih a (by simp [Ex.ar])
   have la := lens a (by simp [Ex.ar])
   have pa := ops a (by simp [Ex.ar])
   have ib := ih b (by simp [Ex.ar])
   have lb := lens b (by simp [Ex.ar])
   have pb := ops b (by simp [Ex.ar])
   rcases ho with rfl | ho
   ·rw [shX_coa]; exact shown_coa v n a pa ia la b pb ib lb
   ·rw [shX_bin ho]; exact shown_bin op ho v n a pa ia la b pb ib lb
def rKE (x : List Tok × Int) : D := .tup [(false, .es [eTks x.1]), (false, .es [eI x.2])]
def shR (x : Ex) : List Tok × Int := if exF x = 0 then (shX x, 0) else ([], exF x)
theorem exF_in {x : Ex} (h : exF x = 0) : nodes x ≤ 40 ∧ ndF x = 0 := by
 unfold exF at h
 split at h
 ·rename_i hs; exact ⟨hs.2, h⟩
 ·cases h
set_option maxRecDepth 10000 in
set_option maxHeartbeats 2000000 in
theorem Show_fn (x : Ex) (hx : exOk x) : FnG Tryd.prog 58 gK [.agg (.es (eEx x))] (rKE (shR x)) := by
 refine fn_introG (T := tab) tOk Tryd.func58 rfl (by kernel_rfl) (by simp [Tryd.ntmps58]) ?_
 intro X hX
 have hnt : X.nt = 12 := hX
 clear hX
 have hc := exprCheck_fn x hx
 have hs := fun h => show_all 40 x (exF_in h).1 (exF_in h).1 (exF_in h).2 1
 rw [shF_lo (lvF_pos _)] at hs
 have hF : shR x = shR x := rfl
 conv at hF => rhs; unfold shR
 generalize shR x = Z at *
 rw [eEx_eq] at hc hs ⊢
 repeat' first | refine zzs ?_ | refine zzb ?_ | refine zzk ?_
 first | refine zzr hnt rfl ?_ ?_ | refine zzd hnt rfl ?_ ?_
 ·exact zzt
 repeat' first | refine zzs ?_ | refine zzb ?_ | refine zzk ?_
 refine tr_region (zzx hnt rfl ?_ (callV rfl rfl rfl rfl rfl rfl rfl hnt rfl (hc) (zzx hnt rfl ?_ (Lex.nil _)))) ?_
 ·exact zzt
 ·exact zzt
 repeat' first | refine zzs ?_ | refine zzb ?_ | refine zzk ?_
 first | refine zzr hnt rfl ?_ ?_ | refine zzd hnt rfl ?_ ?_
 ·exact zzt
 repeat' first | refine zzs ?_ | refine zzb ?_ | refine zzk ?_
 refine tr_cond rfl (fun hc => ?_) (fun hc => ?_)
 ·simp only [zz1, zz2, zz3, zz4, zz5, zz6, zz7, zz8] at hc
  rw [if_neg hc] at hF
  subst hF
  repeat' first | refine zzs ?_ | refine zzr hnt rfl ?_ ?_ | refine zzd hnt rfl ?_ ?_ | refine zzb ?_ | refine zzk ?_
  ·exact zzt
  exact tr_ret ⟨.inr rfl, _, _, rfl, zzp, rfl⟩
 simp only [zz1, zz2, zz3, zz4, zz5, zz6, zz7, zz8] at hc
 have h0 : exF x = 0 := hc
 rw [if_pos h0] at hF
 subst hF
 have h1 := hs h0
 repeat' first | refine zzs ?_ | refine zzb ?_ | refine zzk ?_
 refine tr_region (zzx hnt rfl ?_ (call rfl rfl rfl rfl rfl rfl rfl hnt (h1) (zzx hnt rfl ?_ (Lex.nil _)))) ?_
 ·exact zza
 ·exact zza
 exact tr_ret ⟨.inr rfl, _, _, rfl, zzp, rfl⟩
end Go.Proofs.YtjabmeffgbaglaaDoor
