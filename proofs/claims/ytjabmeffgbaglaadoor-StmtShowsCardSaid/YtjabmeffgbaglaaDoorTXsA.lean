/- Expressions as tokens: parts. No condition. -/
import Derived.Test.YtjabmeffgbaglaaDoorTExA
import Derived.Test.YtjabmeffgbaglaaDoorAbZ
import Derived.Test.YtjabmeffgbaglaaDoorAbI
import Derived.Test.YtjabmeffgbaglaaDoorAbJ
namespace Go.Proofs.YtjabmeffgbaglaaDoor
open Go Go.RowKit Go.Proofs.YtjabmeffgbaglaaDoor.Ab
set_option linter.unusedSimpArgs false
set_option linter.unusedVariables false
def lvF (op : Int) : Int := if op = 16 then 1 else if op = 15 then 2 else if op = 4 then 3 else if (9 ≤ op ∧ op ≤ 14) ∨ op = 17 then 4 else if op = 19 then 5 else if op = 5 ∨ op = 6 then 6 else if op = 7 ∨ op = 8 then 7 else if op = 3 then 8 else 9
set_option maxRecDepth 10000 in
set_option maxHeartbeats 2000000 in
theorem level_fn (op : Int) (h1 : 1 ≤ op) (h2 : op ≤ 20) : FnD Tryd.prog 90 [.one (.e (eI op))] (.one (.e (eI (lvF op)))) := by
 refine fn_intro (T := tab) tOk Tryd.func90 rfl (by kernel_rfl) (by simp [Tryd.ntmps90]) ?_
 intro X hX
 have hnt : X.nt = 28 := hX
 clear hX
 rcases (by omega : op = 1 ∨ op = 2 ∨ op = 3 ∨ op = 4 ∨ op = 5 ∨ op = 6 ∨ op = 7 ∨ op = 8 ∨ op = 9 ∨ op = 10 ∨ op = 11 ∨ op = 12 ∨ op = 13 ∨ op = 14 ∨ op = 15 ∨ op = 16 ∨ op = 17 ∨ op = 18 ∨ op = 19 ∨ op = 20) with rfl | rfl | rfl | rfl | rfl | rfl | rfl | rfl | rfl | rfl | rfl | rfl | rfl | rfl | rfl | rfl | rfl | rfl | rfl | rfl
 all_goals repeat' (first | refine tr_seq ?_ | refine tr_block ?_ | refine tr_skip ?_ | refine reg (T := tab) tOk hnt rfl (by exact zzt) ?_ | refine regD (T := tab) tOk mixedR hnt rfl (by first | decide +kernel | kernel_rfl) (by exact zzt) ?_ | refine tr_cond rfl (fun hc => ?_) (fun hc => absurd hc (by decide)) | refine tr_cond rfl (fun hc => absurd hc (by decide)) (fun hc => ?_))
 all_goals exact tr_ret ⟨.inr rfl, _, _, rfl, trivial, rfl⟩
def sgT (s : Byt) : Tok := ⟨6, s, 0, 0⟩
def wdT (s : Byt) : Tok := ⟨2, s, 0, 0⟩
set_option maxRecDepth 10000 in
set_option maxHeartbeats 2000000 in
theorem signT_fn (s : Byt) : FnD Tryd.prog 91 [.one (.e (eT s))] (.agg (.es (eTok (sgT s)))) := by
 refine fn_intro (T := tab) tOk Tryd.func91 rfl (by kernel_rfl) (by simp [Tryd.ntmps91]) ?_
 intro X hX
 have hnt : X.nt = 5 := hX
 clear hX
 repeat' first | refine zzs ?_ | refine zzr hnt rfl ?_ ?_ | refine zzd hnt rfl ?_ ?_ | refine zzb ?_ | refine zzk ?_
 ·exact zzt
 ·exact zzt
 exact tr_ret ⟨.inr rfl, _, _, rfl, zzp, rfl⟩
set_option maxRecDepth 10000 in
set_option maxHeartbeats 2000000 in
theorem wordT_fn (s : Byt) : FnD Tryd.prog 93 [.one (.e (eT s))] (.agg (.es (eTok (wdT s)))) := by
 refine fn_intro (T := tab) tOk Tryd.func93 rfl (by kernel_rfl) (by simp [Tryd.ntmps93]) ?_
 intro X hX
 have hnt : X.nt = 5 := hX
 clear hX
 repeat' first | refine zzs ?_ | refine zzr hnt rfl ?_ ?_ | refine zzd hnt rfl ?_ ?_ | refine zzb ?_ | refine zzk ?_
 ·exact zzt
 ·exact zzt
 exact tr_ret ⟨.inr rfl, _, _, rfl, zzp, rfl⟩
def mkS (op : Int) : Tok := if op = 16 then wdT [79, 82] else if op = 15 then wdT [65, 78, 68] else if op = 9 then sgT [61] else if op = 10 then sgT [60, 62] else if op = 11 then sgT [60] else if op = 12 then sgT [60, 61] else if op = 13 then sgT [62] else if op = 14 then sgT [62, 61] else if op = 19 then sgT [124, 124] else if op = 5 then sgT [43] else if op = 6 then sgT [45] else if op = 7 then sgT [42] else sgT [47]
set_option maxRecDepth 10000 in
set_option maxHeartbeats 2000000 in
theorem mark_fn (op : Int) (h1 : (5 ≤ op ∧ op ≤ 16) ∨ op = 19) : FnD Tryd.prog 94 [.one (.e (eI op))] (.agg (.es (eTok (mkS op)))) := by
 refine fn_intro (T := tab) tOk Tryd.func94 rfl (by kernel_rfl) (by simp [Tryd.ntmps94]) ?_
 intro X hX
 have hnt : X.nt = 41 := hX
 clear hX
 rcases (by omega : op = 5 ∨ op = 6 ∨ op = 7 ∨ op = 8 ∨ op = 9 ∨ op = 10 ∨ op = 11 ∨ op = 12 ∨ op = 13 ∨ op = 14 ∨ op = 15 ∨ op = 16 ∨ op = 19) with rfl | rfl | rfl | rfl | rfl | rfl | rfl | rfl | rfl | rfl | rfl | rfl | rfl
 ·repeat' (first | refine tr_seq ?_ | refine tr_block ?_ | refine tr_skip ?_ | refine reg (T := tab) tOk hnt rfl (by exact zzt) ?_ | refine regD (T := tab) tOk mixedR hnt rfl (by first | decide +kernel | kernel_rfl) (by exact zzt) ?_ | refine tr_cond rfl (fun hc => ?_) (fun hc => absurd hc (by decide)) | refine tr_cond rfl (fun hc => absurd hc (by decide)) (fun hc => ?_))
  have h := signT_fn [43]
  repeat' first | refine zzs ?_ | refine zzb ?_ | refine zzk ?_
  refine tr_region (zzx hnt rfl ?_ (call rfl rfl rfl rfl rfl rfl rfl hnt (h) (zzx hnt rfl ?_ (Lex.nil _)))) ?_
  ·exact zzt
  ·exact zzt
  exact tr_ret ⟨.inr rfl, _, _, rfl, zzp, rfl⟩
 ·repeat' (first | refine tr_seq ?_ | refine tr_block ?_ | refine tr_skip ?_ | refine reg (T := tab) tOk hnt rfl (by exact zzt) ?_ | refine regD (T := tab) tOk mixedR hnt rfl (by first | decide +kernel | kernel_rfl) (by exact zzt) ?_ | refine tr_cond rfl (fun hc => ?_) (fun hc => absurd hc (by decide)) | refine tr_cond rfl (fun hc => absurd hc (by decide)) (fun hc => ?_))
  have h := signT_fn [45]
  repeat' first | refine zzs ?_ | refine zzb ?_ | refine zzk ?_
  refine tr_region (zzx hnt rfl ?_ (call rfl rfl rfl rfl rfl rfl rfl hnt (h) (zzx hnt rfl ?_ (Lex.nil _)))) ?_
  ·exact zzt
  ·exact zzt
  exact tr_ret ⟨.inr rfl, _, _, rfl, zzp, rfl⟩
 ·repeat' (first | refine tr_seq ?_ | refine tr_block ?_ | refine tr_skip ?_ | refine reg (T := tab) tOk hnt rfl (by exact zzt) ?_ | refine regD (T := tab) tOk mixedR hnt rfl (by first | decide +kernel | kernel_rfl) (by exact zzt) ?_ | refine tr_cond rfl (fun hc => ?_) (fun hc => absurd hc (by decide)) | refine tr_cond rfl (fun hc => absurd hc (by decide)) (fun hc => ?_))
  have h := signT_fn [42]
  repeat' first | refine zzs ?_ | refine zzb ?_ | refine zzk ?_
  refine tr_region (zzx hnt rfl ?_ (call rfl rfl rfl rfl rfl rfl rfl hnt (h) (zzx hnt rfl ?_ (Lex.nil _)))) ?_
  ·exact zzt
  ·exact zzt
  exact tr_ret ⟨.inr rfl, _, _, rfl, zzp, rfl⟩
 ·repeat' (first | refine tr_seq ?_ | refine tr_block ?_ | refine tr_skip ?_ | refine reg (T := tab) tOk hnt rfl (by exact zzt) ?_ | refine regD (T := tab) tOk mixedR hnt rfl (by first | decide +kernel | kernel_rfl) (by exact zzt) ?_ | refine tr_cond rfl (fun hc => ?_) (fun hc => absurd hc (by decide)) | refine tr_cond rfl (fun hc => absurd hc (by decide)) (fun hc => ?_))
  have h := signT_fn [47]
  repeat' first | refine zzs ?_ | refine zzb ?_ | refine zzk ?_
  refine tr_region (zzx hnt rfl ?_ (call rfl rfl rfl rfl rfl rfl rfl hnt (h) (zzx hnt rfl ?_ (Lex.nil _)))) ?_
  ·exact zzt
  ·exact zzt
  exact tr_ret ⟨.inr rfl, _, _, rfl, zzp, rfl⟩
 ·repeat' (first | refine tr_seq ?_ | refine tr_block ?_ | refine tr_skip ?_ | refine reg (T := tab) tOk hnt rfl (by exact zzt) ?_ | refine regD (T := tab) tOk mixedR hnt rfl (by first | decide +kernel | kernel_rfl) (by exact zzt) ?_ | refine tr_cond rfl (fun hc => ?_) (fun hc => absurd hc (by decide)) | refine tr_cond rfl (fun hc => absurd hc (by decide)) (fun hc => ?_))
  have h := signT_fn [61]
  repeat' first | refine zzs ?_ | refine zzb ?_ | refine zzk ?_
  refine tr_region (zzx hnt rfl ?_ (call rfl rfl rfl rfl rfl rfl rfl hnt (h) (zzx hnt rfl ?_ (Lex.nil _)))) ?_
  ·exact zzt
  ·exact zzt
  exact tr_ret ⟨.inr rfl, _, _, rfl, zzp, rfl⟩
 ·repeat' (first | refine tr_seq ?_ | refine tr_block ?_ | refine tr_skip ?_ | refine reg (T := tab) tOk hnt rfl (by exact zzt) ?_ | refine regD (T := tab) tOk mixedR hnt rfl (by first | decide +kernel | kernel_rfl) (by exact zzt) ?_ | refine tr_cond rfl (fun hc => ?_) (fun hc => absurd hc (by decide)) | refine tr_cond rfl (fun hc => absurd hc (by decide)) (fun hc => ?_))
  have h := signT_fn [60,62]
  repeat' first | refine zzs ?_ | refine zzb ?_ | refine zzk ?_
  refine tr_region (zzx hnt rfl ?_ (call rfl rfl rfl rfl rfl rfl rfl hnt (h) (zzx hnt rfl ?_ (Lex.nil _)))) ?_
  ·exact zzt
  ·exact zzt
  exact tr_ret ⟨.inr rfl, _, _, rfl, zzp, rfl⟩
 ·repeat' (first | refine tr_seq ?_ | refine tr_block ?_ | refine tr_skip ?_ | refine reg (T := tab) tOk hnt rfl (by exact zzt) ?_ | refine regD (T := tab) tOk mixedR hnt rfl (by first | decide +kernel | kernel_rfl) (by exact zzt) ?_ | refine tr_cond rfl (fun hc => ?_) (fun hc => absurd hc (by decide)) | refine tr_cond rfl (fun hc => absurd hc (by decide)) (fun hc => ?_))
  have h := signT_fn [60]
  repeat' first | refine zzs ?_ | refine zzb ?_ | refine zzk ?_
  refine tr_region (zzx hnt rfl ?_ (call rfl rfl rfl rfl rfl rfl rfl hnt (h) (zzx hnt rfl ?_ (Lex.nil _)))) ?_
  ·exact zzt
  ·exact zzt
  exact tr_ret ⟨.inr rfl, _, _, rfl, zzp, rfl⟩
 ·repeat' (first | refine tr_seq ?_ | refine tr_block ?_ | refine tr_skip ?_ | refine reg (T := tab) tOk hnt rfl (by exact zzt) ?_ | refine regD (T := tab) tOk mixedR hnt rfl (by first | decide +kernel | kernel_rfl) (by exact zzt) ?_ | refine tr_cond rfl (fun hc => ?_) (fun hc => absurd hc (by decide)) | refine tr_cond rfl (fun hc => absurd hc (by decide)) (fun hc => ?_))
  have h := signT_fn [60,61]
  repeat' first | refine zzs ?_ | refine zzb ?_ | refine zzk ?_
  refine tr_region (zzx hnt rfl ?_ (call rfl rfl rfl rfl rfl rfl rfl hnt (h) (zzx hnt rfl ?_ (Lex.nil _)))) ?_
  ·exact zzt
  ·exact zzt
  exact tr_ret ⟨.inr rfl, _, _, rfl, zzp, rfl⟩
 ·repeat' (first | refine tr_seq ?_ | refine tr_block ?_ | refine tr_skip ?_ | refine reg (T := tab) tOk hnt rfl (by exact zzt) ?_ | refine regD (T := tab) tOk mixedR hnt rfl (by first | decide +kernel | kernel_rfl) (by exact zzt) ?_ | refine tr_cond rfl (fun hc => ?_) (fun hc => absurd hc (by decide)) | refine tr_cond rfl (fun hc => absurd hc (by decide)) (fun hc => ?_))
  have h := signT_fn [62]
  repeat' first | refine zzs ?_ | refine zzb ?_ | refine zzk ?_
  refine tr_region (zzx hnt rfl ?_ (call rfl rfl rfl rfl rfl rfl rfl hnt (h) (zzx hnt rfl ?_ (Lex.nil _)))) ?_
  ·exact zzt
  ·exact zzt
  exact tr_ret ⟨.inr rfl, _, _, rfl, zzp, rfl⟩
 ·repeat' (first | refine tr_seq ?_ | refine tr_block ?_ | refine tr_skip ?_ | refine reg (T := tab) tOk hnt rfl (by exact zzt) ?_ | refine regD (T := tab) tOk mixedR hnt rfl (by first | decide +kernel | kernel_rfl) (by exact zzt) ?_ | refine tr_cond rfl (fun hc => ?_) (fun hc => absurd hc (by decide)) | refine tr_cond rfl (fun hc => absurd hc (by decide)) (fun hc => ?_))
  have h := signT_fn [62,61]
  repeat' first | refine zzs ?_ | refine zzb ?_ | refine zzk ?_
  refine tr_region (zzx hnt rfl ?_ (call rfl rfl rfl rfl rfl rfl rfl hnt (h) (zzx hnt rfl ?_ (Lex.nil _)))) ?_
  ·exact zzt
  ·exact zzt
  exact tr_ret ⟨.inr rfl, _, _, rfl, zzp, rfl⟩
 ·repeat' (first | refine tr_seq ?_ | refine tr_block ?_ | refine tr_skip ?_ | refine reg (T := tab) tOk hnt rfl (by exact zzt) ?_ | refine regD (T := tab) tOk mixedR hnt rfl (by first | decide +kernel | kernel_rfl) (by exact zzt) ?_ | refine tr_cond rfl (fun hc => ?_) (fun hc => absurd hc (by decide)) | refine tr_cond rfl (fun hc => absurd hc (by decide)) (fun hc => ?_))
  have h := wordT_fn [65,78,68]
  repeat' first | refine zzs ?_ | refine zzb ?_ | refine zzk ?_
  refine tr_region (zzx hnt rfl ?_ (call rfl rfl rfl rfl rfl rfl rfl hnt (h) (zzx hnt rfl ?_ (Lex.nil _)))) ?_
  ·exact zzt
  ·exact zzt
  exact tr_ret ⟨.inr rfl, _, _, rfl, zzp, rfl⟩
 ·repeat' (first | refine tr_seq ?_ | refine tr_block ?_ | refine tr_skip ?_ | refine reg (T := tab) tOk hnt rfl (by exact zzt) ?_ | refine regD (T := tab) tOk mixedR hnt rfl (by first | decide +kernel | kernel_rfl) (by exact zzt) ?_ | refine tr_cond rfl (fun hc => ?_) (fun hc => absurd hc (by decide)) | refine tr_cond rfl (fun hc => absurd hc (by decide)) (fun hc => ?_))
  have h := wordT_fn [79,82]
  repeat' first | refine zzs ?_ | refine zzb ?_ | refine zzk ?_
  refine tr_region (zzx hnt rfl ?_ (call rfl rfl rfl rfl rfl rfl rfl hnt (h) (zzx hnt rfl ?_ (Lex.nil _)))) ?_
  ·exact zzt
  ·exact zzt
  exact tr_ret ⟨.inr rfl, _, _, rfl, zzp, rfl⟩
 ·repeat' (first | refine tr_seq ?_ | refine tr_block ?_ | refine tr_skip ?_ | refine reg (T := tab) tOk hnt rfl (by exact zzt) ?_ | refine regD (T := tab) tOk mixedR hnt rfl (by first | decide +kernel | kernel_rfl) (by exact zzt) ?_ | refine tr_cond rfl (fun hc => ?_) (fun hc => absurd hc (by decide)) | refine tr_cond rfl (fun hc => absurd hc (by decide)) (fun hc => ?_))
  have h := signT_fn [124,124]
  repeat' first | refine zzs ?_ | refine zzb ?_ | refine zzk ?_
  refine tr_region (zzx hnt rfl ?_ (call rfl rfl rfl rfl rfl rfl rfl hnt (h) (zzx hnt rfl ?_ (Lex.nil _)))) ?_
  ·exact zzt
  ·exact zzt
  exact tr_ret ⟨.inr rfl, _, _, rfl, zzp, rfl⟩
def ltT (v : Val) : Tok := if v.k = 0 then wdT [78, 85, 76, 76] else if v.k = 1 then (if v.i = 1 then wdT [84, 82, 85, 69] else wdT [70, 65, 76, 83, 69]) else if v.k = 2 then ⟨3, [], v.i, 0⟩ else if v.k = 3 then ⟨5, [], 0, v.b⟩ else ⟨4, v.t, 0, 0⟩
set_option maxRecDepth 10000 in
set_option maxHeartbeats 2000000 in
theorem literal_fn (v : Val) : FnD Tryd.prog 92 [.agg (.es (eVal v))] (.agg (.es (eTok (ltT v)))) := by
 refine fn_intro (T := tab) tOk Tryd.func92 rfl (by kernel_rfl) (by simp [Tryd.ntmps92]) ?_
 intro X hX
 have hnt : X.nt = 28 := hX
 clear hX
 have w1 : FnD Tryd.prog 93 [.v (.string ⟨#[78, 85, 76, 76]⟩)] (.agg (.es (eTok (wdT [78, 85, 76, 76])))) := wordT_fn [78, 85, 76, 76]
 have w2 : FnD Tryd.prog 93 [.v (.string ⟨#[84, 82, 85, 69]⟩)] (.agg (.es (eTok (wdT [84, 82, 85, 69])))) := wordT_fn [84, 82, 85, 69]
 have w3 : FnD Tryd.prog 93 [.v (.string ⟨#[70, 65, 76, 83, 69]⟩)] (.agg (.es (eTok (wdT [70, 65, 76, 83, 69])))) := wordT_fn [70, 65, 76, 83, 69]
 unfold ltT
 repeat' first | refine zzs ?_ | refine zzr hnt rfl ?_ ?_ | refine zzd hnt rfl ?_ ?_ | refine zzb ?_ | refine zzk ?_
 ·exact zzt
 ·exact zzt
 ·exact zzt
 repeat' first | refine zzs ?_ | refine zzb ?_ | refine zzk ?_
 refine tr_cond rfl (fun hc => ?_) (fun hc => ?_)
 ·simp only [zz1, zz2, zz3, zz4, zz5, zz6, zz7, zz8] at hc
  (try simp only [eVal0] at hc)
  (try simp only [zz1, zz2, zz3, zz4, zz5, zz6, zz7, zz8] at hc)
  rw [if_pos hc]
  repeat' first | refine zzs ?_ | refine zzb ?_ | refine zzk ?_
  refine tr_region (zzx hnt rfl ?_ (call rfl rfl rfl rfl rfl rfl rfl hnt (w1) (zzx hnt rfl ?_ (Lex.nil _)))) ?_
  ·exact zzt
  ·exact zzt
  exact tr_ret ⟨.inr rfl, _, _, rfl, zzp, rfl⟩
 simp only [zz1, zz2, zz3, zz4, zz5, zz6, zz7, zz8] at hc
 (try simp only [eVal0] at hc)
 (try simp only [zz1, zz2, zz3, zz4, zz5, zz6, zz7, zz8] at hc)
 rw [if_neg hc]
 repeat' first | refine zzs ?_ | refine zzb ?_ | refine zzk ?_
 first | refine zzr hnt rfl ?_ ?_ | refine zzd hnt rfl ?_ ?_
 ·exact zzt
 repeat' first | refine zzs ?_ | refine zzb ?_ | refine zzk ?_
 refine tr_cond rfl (fun hc => ?_) (fun hc => ?_)
 ·simp only [zz1, zz2, zz3, zz4, zz5, zz6, zz7, zz8] at hc
  (try simp only [eVal0] at hc)
  (try simp only [zz1, zz2, zz3, zz4, zz5, zz6, zz7, zz8] at hc)
  rw [if_pos hc]
  repeat' first | refine zzs ?_ | refine zzb ?_ | refine zzk ?_
  first | refine zzr hnt rfl ?_ ?_ | refine zzd hnt rfl ?_ ?_
  ·exact zzt
  repeat' first | refine zzs ?_ | refine zzb ?_ | refine zzk ?_
  refine tr_cond rfl (fun hc => ?_) (fun hc => ?_)
  ·simp only [zz1, zz2, zz3, zz4, zz5, zz6, zz7, zz8] at hc
   (try simp only [eVal1] at hc)
   (try simp only [zz1, zz2, zz3, zz4, zz5, zz6, zz7, zz8] at hc)
   rw [if_pos hc]
   repeat' first | refine zzs ?_ | refine zzb ?_ | refine zzk ?_
   refine tr_region (zzx hnt rfl ?_ (call rfl rfl rfl rfl rfl rfl rfl hnt (w2) (zzx hnt rfl ?_ (Lex.nil _)))) ?_
   ·exact zzt
   ·exact zzt
   exact tr_ret ⟨.inr rfl, _, _, rfl, zzp, rfl⟩
  simp only [zz1, zz2, zz3, zz4, zz5, zz6, zz7, zz8] at hc
  (try simp only [eVal1] at hc)
  (try simp only [zz1, zz2, zz3, zz4, zz5, zz6, zz7, zz8] at hc)
  rw [if_neg hc]
  repeat' first | refine zzs ?_ | refine zzb ?_ | refine zzk ?_
  refine tr_region (zzx hnt rfl ?_ (call rfl rfl rfl rfl rfl rfl rfl hnt (w3) (zzx hnt rfl ?_ (Lex.nil _)))) ?_
  ·exact zzt
  ·exact zzt
  exact tr_ret ⟨.inr rfl, _, _, rfl, zzp, rfl⟩
 simp only [zz1, zz2, zz3, zz4, zz5, zz6, zz7, zz8] at hc
 (try simp only [eVal0] at hc)
 (try simp only [zz1, zz2, zz3, zz4, zz5, zz6, zz7, zz8] at hc)
 rw [if_neg hc]
 repeat' first | refine zzs ?_ | refine zzb ?_ | refine zzk ?_
 first | refine zzr hnt rfl ?_ ?_ | refine zzd hnt rfl ?_ ?_
 ·exact zzt
 repeat' first | refine zzs ?_ | refine zzb ?_ | refine zzk ?_
 refine tr_cond rfl (fun hc => ?_) (fun hc => ?_)
 ·simp only [zz1, zz2, zz3, zz4, zz5, zz6, zz7, zz8] at hc
  (try simp only [eVal0] at hc)
  (try simp only [zz1, zz2, zz3, zz4, zz5, zz6, zz7, zz8] at hc)
  rw [if_pos hc]
  repeat' first | refine zzs ?_ | refine zzr hnt rfl ?_ ?_ | refine zzd hnt rfl ?_ ?_ | refine zzb ?_ | refine zzk ?_
  ·exact zzt
  exact tr_ret ⟨.inr rfl, _, _, rfl, zzp, rfl⟩
 simp only [zz1, zz2, zz3, zz4, zz5, zz6, zz7, zz8] at hc
 (try simp only [eVal0] at hc)
 (try simp only [zz1, zz2, zz3, zz4, zz5, zz6, zz7, zz8] at hc)
 rw [if_neg hc]
 repeat' first | refine zzs ?_ | refine zzb ?_ | refine zzk ?_
 first | refine zzr hnt rfl ?_ ?_ | refine zzd hnt rfl ?_ ?_
 ·exact zzt
 repeat' first | refine zzs ?_ | refine zzb ?_ | refine zzk ?_
 refine tr_cond rfl (fun hc => ?_) (fun hc => ?_)
 ·simp only [zz1, zz2, zz3, zz4, zz5, zz6, zz7, zz8] at hc
  (try simp only [eVal0] at hc)
  (try simp only [zz1, zz2, zz3, zz4, zz5, zz6, zz7, zz8] at hc)
  rw [if_pos hc]
  repeat' first | refine zzs ?_ | refine zzr hnt rfl ?_ ?_ | refine zzd hnt rfl ?_ ?_ | refine zzb ?_ | refine zzk ?_
  ·exact zzt
  exact tr_ret ⟨.inr rfl, _, _, rfl, zzp, rfl⟩
 simp only [zz1, zz2, zz3, zz4, zz5, zz6, zz7, zz8] at hc
 (try simp only [eVal0] at hc)
 (try simp only [zz1, zz2, zz3, zz4, zz5, zz6, zz7, zz8] at hc)
 rw [if_neg hc]
 repeat' first | refine zzs ?_ | refine zzr hnt rfl ?_ ?_ | refine zzd hnt rfl ?_ ?_ | refine zzb ?_ | refine zzk ?_
 ·exact zzt
 exact tr_ret ⟨.inr rfl, _, _, rfl, zzp, rfl⟩
end Go.Proofs.YtjabmeffgbaglaaDoor
