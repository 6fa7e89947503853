/- Expressions as tokens: parts. No condition. -/
import Derived.Test.YtcdifgacoleckaaDoorTExA
import Derived.Test.YtcdifgacoleckaaDoorAbZ
import Derived.Test.YtcdifgacoleckaaDoorAbI
import Derived.Test.YtcdifgacoleckaaDoorAbJ
namespace Go.Proofs.YtcdifgacoleckaaDoor
open Go Go.RowKit Go.Proofs.YtcdifgacoleckaaDoor.Ab
set_option linter.unusedSimpArgs false
set_option linter.unusedVariables false

/-- how closely an operation binds -/
def lvF (op : Int) : Int := if op = 16 then 1 else if op = 15 then 2 else if op = 4 then 3 else if (9 ≤ op ∧ op ≤ 14) ∨ op = 17 then 4 else if op = 19 then 5 else if op = 5 ∨ op = 6 then 6 else if op = 7 ∨ op = 8 then 7 else if op = 3 then 8 else 9
def sgT (s : Byt) : Tok := ⟨6, s, 0, 0⟩
def wdT (s : Byt) : Tok := ⟨2, s, 0, 0⟩
set_option maxRecDepth 10000 in
set_option maxHeartbeats 2000000 in
theorem signT_fn (s : Byt) : FnD Tryd.prog 41 [.one (.e (eT s))] (.agg (.es (eTok (sgT s)))) := by
  refine fn_intro (T := tab) tOk Tryd.func41 rfl (by kernel_rfl) (by simp [Tryd.ntmps41]) ?_
  intro X hX
  have hnt : X.nt = 5 := hX
  clear hX
  repeat' first | refine zzs ?_ | refine zzr hnt rfl ?_ ?_ | refine zzd hnt rfl ?_ ?_ | refine zzb ?_ | refine zzk ?_
  · exact zzt
  · exact zzt
  exact tr_ret ⟨.inr rfl, _, _, rfl, zzp, rfl⟩
set_option maxRecDepth 10000 in
set_option maxHeartbeats 2000000 in
theorem wordT_fn (s : Byt) : FnD Tryd.prog 40 [.one (.e (eT s))] (.agg (.es (eTok (wdT s)))) := by
  refine fn_intro (T := tab) tOk Tryd.func40 rfl (by kernel_rfl) (by simp [Tryd.ntmps40]) ?_
  intro X hX
  have hnt : X.nt = 5 := hX
  clear hX
  repeat' first | refine zzs ?_ | refine zzr hnt rfl ?_ ?_ | refine zzd hnt rfl ?_ ?_ | refine zzb ?_ | refine zzk ?_
  · exact zzt
  · exact zzt
  exact tr_ret ⟨.inr rfl, _, _, rfl, zzp, rfl⟩
def mkS (op : Int) : Tok := if op = 16 then wdT [79, 82] else if op = 15 then wdT [65, 78, 68] else if op = 9 then sgT [61] else if op = 10 then sgT [60, 62] else if op = 11 then sgT [60] else if op = 12 then sgT [60, 61] else if op = 13 then sgT [62] else if op = 14 then sgT [62, 61] else if op = 19 then sgT [124, 124] else if op = 5 then sgT [43] else if op = 6 then sgT [45] else if op = 7 then sgT [42] else sgT [47]
set_option maxRecDepth 10000 in
set_option maxHeartbeats 2000000 in
theorem mark_fn (op : Int) (h1 : (5 ≤ op ∧ op ≤ 16) ∨ op = 19) : FnD Tryd.prog 26 [.one (.e (eI op))] (.agg (.es (eTok (mkS op)))) := by
  refine fn_intro (T := tab) tOk Tryd.func26 rfl (by kernel_rfl) (by simp [Tryd.ntmps26]) ?_
  intro X hX
  have hnt : X.nt = 41 := hX
  clear hX
  rcases (by omega : op = 5 ∨ op = 6 ∨ op = 7 ∨ op = 8 ∨ op = 9 ∨ op = 10 ∨ op = 11 ∨ op = 12 ∨ op = 13 ∨ op = 14 ∨ op = 15 ∨ op = 16 ∨ op = 19) with rfl | rfl | rfl | rfl | rfl | rfl | rfl | rfl | rfl | rfl | rfl | rfl | rfl
  · repeat' (first | refine tr_seq ?_ | refine tr_block ?_ | refine tr_skip ?_ | refine reg (T := tab) tOk hnt rfl (by exact zzt) ?_ | refine regD (T := tab) tOk mixedR hnt rfl (by first | decide +kernel | kernel_rfl) (by exact zzt) ?_ | refine tr_cond rfl (fun hc => ?_) (fun hc => absurd hc (by decide)) | refine tr_cond rfl (fun hc => absurd hc (by decide)) (fun hc => ?_))
    have h := signT_fn [43]
    repeat' first | refine zzs ?_ | refine zzb ?_ | refine zzk ?_
    refine tr_region (zzx hnt rfl ?_ (call rfl rfl rfl rfl rfl rfl rfl hnt (h) (zzx hnt rfl ?_ (Lex.nil _)))) ?_
    · exact zzt
    · exact zzt
    exact tr_ret ⟨.inr rfl, _, _, rfl, zzp, rfl⟩
  · repeat' (first | refine tr_seq ?_ | refine tr_block ?_ | refine tr_skip ?_ | refine reg (T := tab) tOk hnt rfl (by exact zzt) ?_ | refine regD (T := tab) tOk mixedR hnt rfl (by first | decide +kernel | kernel_rfl) (by exact zzt) ?_ | refine tr_cond rfl (fun hc => ?_) (fun hc => absurd hc (by decide)) | refine tr_cond rfl (fun hc => absurd hc (by decide)) (fun hc => ?_))
    have h := signT_fn [45]
    repeat' first | refine zzs ?_ | refine zzb ?_ | refine zzk ?_
    refine tr_region (zzx hnt rfl ?_ (call rfl rfl rfl rfl rfl rfl rfl hnt (h) (zzx hnt rfl ?_ (Lex.nil _)))) ?_
    · exact zzt
    · exact zzt
    exact tr_ret ⟨.inr rfl, _, _, rfl, zzp, rfl⟩
  · repeat' (first | refine tr_seq ?_ | refine tr_block ?_ | refine tr_skip ?_ | refine reg (T := tab) tOk hnt rfl (by exact zzt) ?_ | refine regD (T := tab) tOk mixedR hnt rfl (by first | decide +kernel | kernel_rfl) (by exact zzt) ?_ | refine tr_cond rfl (fun hc => ?_) (fun hc => absurd hc (by decide)) | refine tr_cond rfl (fun hc => absurd hc (by decide)) (fun hc => ?_))
    have h := signT_fn [42]
    repeat' first | refine zzs ?_ | refine zzb ?_ | refine zzk ?_
    refine tr_region (zzx hnt rfl ?_ (call rfl rfl rfl rfl rfl rfl rfl hnt (h) (zzx hnt rfl ?_ (Lex.nil _)))) ?_
    · exact zzt
    · exact zzt
    exact tr_ret ⟨.inr rfl, _, _, rfl, zzp, rfl⟩
  · repeat' (first | refine tr_seq ?_ | refine tr_block ?_ | refine tr_skip ?_ | refine reg (T := tab) tOk hnt rfl (by exact zzt) ?_ | refine regD (T := tab) tOk mixedR hnt rfl (by first | decide +kernel | kernel_rfl) (by exact zzt) ?_ | refine tr_cond rfl (fun hc => ?_) (fun hc => absurd hc (by decide)) | refine tr_cond rfl (fun hc => absurd hc (by decide)) (fun hc => ?_))
    have h := signT_fn [47]
    repeat' first | refine zzs ?_ | refine zzb ?_ | refine zzk ?_
    refine tr_region (zzx hnt rfl ?_ (call rfl rfl rfl rfl rfl rfl rfl hnt (h) (zzx hnt rfl ?_ (Lex.nil _)))) ?_
    · exact zzt
    · exact zzt
    exact tr_ret ⟨.inr rfl, _, _, rfl, zzp, rfl⟩
  · repeat' (first | refine tr_seq ?_ | refine tr_block ?_ | refine tr_skip ?_ | refine reg (T := tab) tOk hnt rfl (by exact zzt) ?_ | refine regD (T := tab) tOk mixedR hnt rfl (by first | decide +kernel | kernel_rfl) (by exact zzt) ?_ | refine tr_cond rfl (fun hc => ?_) (fun hc => absurd hc (by decide)) | refine tr_cond rfl (fun hc => absurd hc (by decide)) (fun hc => ?_))
    have h := signT_fn [61]
    repeat' first | refine zzs ?_ | refine zzb ?_ | refine zzk ?_
    refine tr_region (zzx hnt rfl ?_ (call rfl rfl rfl rfl rfl rfl rfl hnt (h) (zzx hnt rfl ?_ (Lex.nil _)))) ?_
    · exact zzt
    · exact zzt
    exact tr_ret ⟨.inr rfl, _, _, rfl, zzp, rfl⟩
  · repeat' (first | refine tr_seq ?_ | refine tr_block ?_ | refine tr_skip ?_ | refine reg (T := tab) tOk hnt rfl (by exact zzt) ?_ | refine regD (T := tab) tOk mixedR hnt rfl (by first | decide +kernel | kernel_rfl) (by exact zzt) ?_ | refine tr_cond rfl (fun hc => ?_) (fun hc => absurd hc (by decide)) | refine tr_cond rfl (fun hc => absurd hc (by decide)) (fun hc => ?_))
    have h := signT_fn [60,62]
    repeat' first | refine zzs ?_ | refine zzb ?_ | refine zzk ?_
    refine tr_region (zzx hnt rfl ?_ (call rfl rfl rfl rfl rfl rfl rfl hnt (h) (zzx hnt rfl ?_ (Lex.nil _)))) ?_
    · exact zzt
    · exact zzt
    exact tr_ret ⟨.inr rfl, _, _, rfl, zzp, rfl⟩
  · repeat' (first | refine tr_seq ?_ | refine tr_block ?_ | refine tr_skip ?_ | refine reg (T := tab) tOk hnt rfl (by exact zzt) ?_ | refine regD (T := tab) tOk mixedR hnt rfl (by first | decide +kernel | kernel_rfl) (by exact zzt) ?_ | refine tr_cond rfl (fun hc => ?_) (fun hc => absurd hc (by decide)) | refine tr_cond rfl (fun hc => absurd hc (by decide)) (fun hc => ?_))
    have h := signT_fn [60]
    repeat' first | refine zzs ?_ | refine zzb ?_ | refine zzk ?_
    refine tr_region (zzx hnt rfl ?_ (call rfl rfl rfl rfl rfl rfl rfl hnt (h) (zzx hnt rfl ?_ (Lex.nil _)))) ?_
    · exact zzt
    · exact zzt
    exact tr_ret ⟨.inr rfl, _, _, rfl, zzp, rfl⟩
  · repeat' (first | refine tr_seq ?_ | refine tr_block ?_ | refine tr_skip ?_ | refine reg (T := tab) tOk hnt rfl (by exact zzt) ?_ | refine regD (T := tab) tOk mixedR hnt rfl (by first | decide +kernel | kernel_rfl) (by exact zzt) ?_ | refine tr_cond rfl (fun hc => ?_) (fun hc => absurd hc (by decide)) | refine tr_cond rfl (fun hc => absurd hc (by decide)) (fun hc => ?_))
    have h := signT_fn [60,61]
    repeat' first | refine zzs ?_ | refine zzb ?_ | refine zzk ?_
    refine tr_region (zzx hnt rfl ?_ (call rfl rfl rfl rfl rfl rfl rfl hnt (h) (zzx hnt rfl ?_ (Lex.nil _)))) ?_
    · exact zzt
    · exact zzt
    exact tr_ret ⟨.inr rfl, _, _, rfl, zzp, rfl⟩
  · repeat' (first | refine tr_seq ?_ | refine tr_block ?_ | refine tr_skip ?_ | refine reg (T := tab) tOk hnt rfl (by exact zzt) ?_ | refine regD (T := tab) tOk mixedR hnt rfl (by first | decide +kernel | kernel_rfl) (by exact zzt) ?_ | refine tr_cond rfl (fun hc => ?_) (fun hc => absurd hc (by decide)) | refine tr_cond rfl (fun hc => absurd hc (by decide)) (fun hc => ?_))
    have h := signT_fn [62]
    repeat' first | refine zzs ?_ | refine zzb ?_ | refine zzk ?_
    refine tr_region (zzx hnt rfl ?_ (call rfl rfl rfl rfl rfl rfl rfl hnt (h) (zzx hnt rfl ?_ (Lex.nil _)))) ?_
    · exact zzt
    · exact zzt
    exact tr_ret ⟨.inr rfl, _, _, rfl, zzp, rfl⟩
  · repeat' (first | refine tr_seq ?_ | refine tr_block ?_ | refine tr_skip ?_ | refine reg (T := tab) tOk hnt rfl (by exact zzt) ?_ | refine regD (T := tab) tOk mixedR hnt rfl (by first | decide +kernel | kernel_rfl) (by exact zzt) ?_ | refine tr_cond rfl (fun hc => ?_) (fun hc => absurd hc (by decide)) | refine tr_cond rfl (fun hc => absurd hc (by decide)) (fun hc => ?_))
    have h := signT_fn [62,61]
    repeat' first | refine zzs ?_ | refine zzb ?_ | refine zzk ?_
    refine tr_region (zzx hnt rfl ?_ (call rfl rfl rfl rfl rfl rfl rfl hnt (h) (zzx hnt rfl ?_ (Lex.nil _)))) ?_
    · exact zzt
    · exact zzt
    exact tr_ret ⟨.inr rfl, _, _, rfl, zzp, rfl⟩
  · repeat' (first | refine tr_seq ?_ | refine tr_block ?_ | refine tr_skip ?_ | refine reg (T := tab) tOk hnt rfl (by exact zzt) ?_ | refine regD (T := tab) tOk mixedR hnt rfl (by first | decide +kernel | kernel_rfl) (by exact zzt) ?_ | refine tr_cond rfl (fun hc => ?_) (fun hc => absurd hc (by decide)) | refine tr_cond rfl (fun hc => absurd hc (by decide)) (fun hc => ?_))
    have h := wordT_fn [65,78,68]
    repeat' first | refine zzs ?_ | refine zzb ?_ | refine zzk ?_
    refine tr_region (zzx hnt rfl ?_ (call rfl rfl rfl rfl rfl rfl rfl hnt (h) (zzx hnt rfl ?_ (Lex.nil _)))) ?_
    · exact zzt
    · exact zzt
    exact tr_ret ⟨.inr rfl, _, _, rfl, zzp, rfl⟩
  · repeat' (first | refine tr_seq ?_ | refine tr_block ?_ | refine tr_skip ?_ | refine reg (T := tab) tOk hnt rfl (by exact zzt) ?_ | refine regD (T := tab) tOk mixedR hnt rfl (by first | decide +kernel | kernel_rfl) (by exact zzt) ?_ | refine tr_cond rfl (fun hc => ?_) (fun hc => absurd hc (by decide)) | refine tr_cond rfl (fun hc => absurd hc (by decide)) (fun hc => ?_))
    have h := wordT_fn [79,82]
    repeat' first | refine zzs ?_ | refine zzb ?_ | refine zzk ?_
    refine tr_region (zzx hnt rfl ?_ (call rfl rfl rfl rfl rfl rfl rfl hnt (h) (zzx hnt rfl ?_ (Lex.nil _)))) ?_
    · exact zzt
    · exact zzt
    exact tr_ret ⟨.inr rfl, _, _, rfl, zzp, rfl⟩
  · repeat' (first | refine tr_seq ?_ | refine tr_block ?_ | refine tr_skip ?_ | refine reg (T := tab) tOk hnt rfl (by exact zzt) ?_ | refine regD (T := tab) tOk mixedR hnt rfl (by first | decide +kernel | kernel_rfl) (by exact zzt) ?_ | refine tr_cond rfl (fun hc => ?_) (fun hc => absurd hc (by decide)) | refine tr_cond rfl (fun hc => absurd hc (by decide)) (fun hc => ?_))
    have h := signT_fn [124,124]
    repeat' first | refine zzs ?_ | refine zzb ?_ | refine zzk ?_
    refine tr_region (zzx hnt rfl ?_ (call rfl rfl rfl rfl rfl rfl rfl hnt (h) (zzx hnt rfl ?_ (Lex.nil _)))) ?_
    · exact zzt
    · exact zzt
    exact tr_ret ⟨.inr rfl, _, _, rfl, zzp, rfl⟩
def ltT (v : Val) : Tok := if v.k = 0 then wdT [78, 85, 76, 76] else if v.k = 1 then (if v.i = 1 then wdT [84, 82, 85, 69] else wdT [70, 65, 76, 83, 69]) else if v.k = 2 then ⟨3, [], v.i, 0⟩ else if v.k = 3 then ⟨5, [], 0, v.b⟩ else ⟨4, v.t, 0, 0⟩
end Go.Proofs.YtcdifgacoleckaaDoor
