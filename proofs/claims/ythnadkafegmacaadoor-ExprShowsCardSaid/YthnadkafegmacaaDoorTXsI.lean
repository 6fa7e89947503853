/- The document's expression shown: operations of two. No condition. -/
import Derived.Test.YthnadkafegmacaaDoorTXsH
namespace Go.Proofs.YthnadkafegmacaaDoor
open Go Go.RowKit Go.Proofs.YthnadkafegmacaaDoor.Ab
set_option linter.unusedSimpArgs false
set_option linter.unusedVariables false

set_option maxRecDepth 10000 in
set_option maxHeartbeats 2000000 in
theorem shown_bin (op : Int) (ho : (5 ≤ op ∧ op ≤ 16) ∨ op = 19) (v : Val) (n : Byt) (a : Ex) (pa : 1 ≤ a.op ∧ a.op ≤ 20) (iha : Shown a) (lena : (shX a).length ≤ 998) (b : Ex) (pb : 1 ≤ b.op ∧ b.op ≤ 20) (ihb : Shown b) (lenb : (shX b).length ≤ 998) : FnG Tryd.prog 35 ([(6, spE), (2, mkE)]) [.agg (.es (eEx (.mk op v n [a, b])))] (.one (.e (eTks (shF a (left op) ++ [mkS op] ++ shF b (lvF op + 1))))) := by
  refine fn_introG (T := tab) tOk Tryd.func35 rfl (by kernel_rfl) (by simp [Tryd.ntmps35]) ?_
  intro X hX
  have hnt : X.nt = 105 := hX
  clear hX
  have fa : 0 + 7 ≤ (Cs.es (eEx a)).len := by have := ex7 a; show 0 + 7 ≤ (eEx a).length; omega
  have ga : (eEx a).length = 7 := ex7 a
  have fb : 0 + 7 ≤ (Cs.es (eEx b)).len := by have := ex7 b; show 0 + 7 ≤ (eEx b).length; omega
  have gb : (eEx b).length = 7 := ex7 b
  have q0 : (0 : Int) < ((2 : Nat) : Int) := by decide
  have q1 : (1 : Int) < ((2 : Nat) : Int) := by decide
  have hm := markOf_fn op ho
  have l1 := shF_len lena (left op)
  have l2 := shF_len lenb (lvF op + 1)
  have h9 := cat_fn [shF a (left op), [mkS op], shF b (lvF op + 1)] (Nat.le_of_ble_eq_true rfl) (by simp; omega)
  rw [show ([shF a (left op), [mkS op], shF b (lvF op + 1)] : List (List Tok)).flatten = shF a (left op) ++ [mkS op] ++ shF b (lvF op + 1) from by simp] at h9
  rcases (by omega : op = 5 ∨ op = 6 ∨ op = 7 ∨ op = 8 ∨ op = 9 ∨ op = 10 ∨ op = 11 ∨ op = 12 ∨ op = 13 ∨ op = 14 ∨ op = 15 ∨ op = 16 ∨ op = 19) with rfl | rfl | rfl | rfl | rfl | rfl | rfl | rfl | rfl | rfl | rfl | rfl | rfl
  · clear ho
    rw [eEx_mk]
    have hbi : FnD Tryd.prog 72 [.one (.e (eI 5))] (.one (.e (eI 5))) := binds_fn 5 (by decide) (by decide)
    repeat' (first | refine tr_seq ?_ | refine tr_block ?_ | refine tr_skip ?_ | refine tr_unroll 30 ?_ | refine rounds_go ?_ | refine tr_exit ?_ | refine reg (T := tab) tOk hnt rfl (by exact zzt) ?_ | refine regD (T := tab) tOk mixedR hnt rfl (by first | decide +kernel | kernel_rfl) (by exact zzt) ?_ | refine tr_cond rfl (fun hc => ?_) (fun hc => absurd (show true = false from hc) Bool.noConfusion) | refine tr_cond rfl (fun hc => absurd (show false = true from hc) Bool.noConfusion) (fun hc => ?_))
    repeat' first | refine zzs ?_ | refine zzb ?_ | refine zzk ?_
    refine tr_region (zzx hnt rfl ?_ (call rfl rfl rfl rfl rfl rfl rfl hnt (hbi) (zzx hnt rfl ?_ (Lex.nil _)))) ?_
    · exact zza
    · exact zza
    repeat' (first | refine tr_seq ?_ | refine tr_block ?_ | refine tr_skip ?_ | refine tr_unroll 30 ?_ | refine rounds_go ?_ | refine tr_exit ?_ | refine reg (T := tab) tOk hnt rfl (by exact zzt) ?_ | refine regD (T := tab) tOk mixedR hnt rfl (by first | decide +kernel | kernel_rfl) (by exact zzt) ?_ | refine tr_cond rfl (fun hc => ?_) (fun hc => absurd (show true = false from hc) Bool.noConfusion) | refine tr_cond rfl (fun hc => absurd (show false = true from hc) Bool.noConfusion) (fun hc => ?_))
    have h1 := insideF (l := 5) (l2 := left 5) rfl pa iha lena
    have h2 := insideF (l := 6) (l2 := lvF 5 + 1) rfl pb ihb lenb
    repeat' first | refine zzs ?_ | refine zzb ?_ | refine zzk ?_
    refine tr_draw (T := tab) tOk hnt mixedR (lexD (T := tab) rfl ?_ (callVD rfl rfl rfl rfl rfl rfl rfl rfl rfl (h1) (lexD (T := tab) rfl ?_ (callVD rfl rfl rfl rfl rfl rfl rfl rfl rfl (hm) (lexD (T := tab) rfl ?_ (callVD rfl rfl rfl rfl rfl rfl rfl rfl rfl (h2) (lexD (T := tab) rfl ?_ (callDU rfl rfl rfl rfl rfl rfl rfl rfl rfl (h9) (lexD (T := tab) rfl ?_ (.nil _)))))))))) (by first | decide +kernel | kernel_rfl) ?_
    · exact zza
    · exact zza
    · exact zza
    · exact zza
    · exact zza
    exact tr_ret ⟨.inr rfl, _, _, rfl, zzp, rfl⟩
  · clear ho
    rw [eEx_mk]
    have hbi : FnD Tryd.prog 72 [.one (.e (eI 6))] (.one (.e (eI 5))) := binds_fn 6 (by decide) (by decide)
    repeat' (first | refine tr_seq ?_ | refine tr_block ?_ | refine tr_skip ?_ | refine tr_unroll 30 ?_ | refine rounds_go ?_ | refine tr_exit ?_ | refine reg (T := tab) tOk hnt rfl (by exact zzt) ?_ | refine regD (T := tab) tOk mixedR hnt rfl (by first | decide +kernel | kernel_rfl) (by exact zzt) ?_ | refine tr_cond rfl (fun hc => ?_) (fun hc => absurd (show true = false from hc) Bool.noConfusion) | refine tr_cond rfl (fun hc => absurd (show false = true from hc) Bool.noConfusion) (fun hc => ?_))
    repeat' first | refine zzs ?_ | refine zzb ?_ | refine zzk ?_
    refine tr_region (zzx hnt rfl ?_ (call rfl rfl rfl rfl rfl rfl rfl hnt (hbi) (zzx hnt rfl ?_ (Lex.nil _)))) ?_
    · exact zza
    · exact zza
    repeat' (first | refine tr_seq ?_ | refine tr_block ?_ | refine tr_skip ?_ | refine tr_unroll 30 ?_ | refine rounds_go ?_ | refine tr_exit ?_ | refine reg (T := tab) tOk hnt rfl (by exact zzt) ?_ | refine regD (T := tab) tOk mixedR hnt rfl (by first | decide +kernel | kernel_rfl) (by exact zzt) ?_ | refine tr_cond rfl (fun hc => ?_) (fun hc => absurd (show true = false from hc) Bool.noConfusion) | refine tr_cond rfl (fun hc => absurd (show false = true from hc) Bool.noConfusion) (fun hc => ?_))
    have h1 := insideF (l := 5) (l2 := left 6) rfl pa iha lena
    have h2 := insideF (l := 6) (l2 := lvF 6 + 1) rfl pb ihb lenb
    repeat' first | refine zzs ?_ | refine zzb ?_ | refine zzk ?_
    refine tr_draw (T := tab) tOk hnt mixedR (lexD (T := tab) rfl ?_ (callVD rfl rfl rfl rfl rfl rfl rfl rfl rfl (h1) (lexD (T := tab) rfl ?_ (callVD rfl rfl rfl rfl rfl rfl rfl rfl rfl (hm) (lexD (T := tab) rfl ?_ (callVD rfl rfl rfl rfl rfl rfl rfl rfl rfl (h2) (lexD (T := tab) rfl ?_ (callDU rfl rfl rfl rfl rfl rfl rfl rfl rfl (h9) (lexD (T := tab) rfl ?_ (.nil _)))))))))) (by first | decide +kernel | kernel_rfl) ?_
    · exact zza
    · exact zza
    · exact zza
    · exact zza
    · exact zza
    exact tr_ret ⟨.inr rfl, _, _, rfl, zzp, rfl⟩
  · clear ho
    rw [eEx_mk]
    have hbi : FnD Tryd.prog 72 [.one (.e (eI 7))] (.one (.e (eI 6))) := binds_fn 7 (by decide) (by decide)
    repeat' (first | refine tr_seq ?_ | refine tr_block ?_ | refine tr_skip ?_ | refine tr_unroll 30 ?_ | refine rounds_go ?_ | refine tr_exit ?_ | refine reg (T := tab) tOk hnt rfl (by exact zzt) ?_ | refine regD (T := tab) tOk mixedR hnt rfl (by first | decide +kernel | kernel_rfl) (by exact zzt) ?_ | refine tr_cond rfl (fun hc => ?_) (fun hc => absurd (show true = false from hc) Bool.noConfusion) | refine tr_cond rfl (fun hc => absurd (show false = true from hc) Bool.noConfusion) (fun hc => ?_))
    repeat' first | refine zzs ?_ | refine zzb ?_ | refine zzk ?_
    refine tr_region (zzx hnt rfl ?_ (call rfl rfl rfl rfl rfl rfl rfl hnt (hbi) (zzx hnt rfl ?_ (Lex.nil _)))) ?_
    · exact zza
    · exact zza
    repeat' (first | refine tr_seq ?_ | refine tr_block ?_ | refine tr_skip ?_ | refine tr_unroll 30 ?_ | refine rounds_go ?_ | refine tr_exit ?_ | refine reg (T := tab) tOk hnt rfl (by exact zzt) ?_ | refine regD (T := tab) tOk mixedR hnt rfl (by first | decide +kernel | kernel_rfl) (by exact zzt) ?_ | refine tr_cond rfl (fun hc => ?_) (fun hc => absurd (show true = false from hc) Bool.noConfusion) | refine tr_cond rfl (fun hc => absurd (show false = true from hc) Bool.noConfusion) (fun hc => ?_))
    have h1 := insideF (l := 6) (l2 := left 7) rfl pa iha lena
    have h2 := insideF (l := 7) (l2 := lvF 7 + 1) rfl pb ihb lenb
    repeat' first | refine zzs ?_ | refine zzb ?_ | refine zzk ?_
    refine tr_draw (T := tab) tOk hnt mixedR (lexD (T := tab) rfl ?_ (callVD rfl rfl rfl rfl rfl rfl rfl rfl rfl (h1) (lexD (T := tab) rfl ?_ (callVD rfl rfl rfl rfl rfl rfl rfl rfl rfl (hm) (lexD (T := tab) rfl ?_ (callVD rfl rfl rfl rfl rfl rfl rfl rfl rfl (h2) (lexD (T := tab) rfl ?_ (callDU rfl rfl rfl rfl rfl rfl rfl rfl rfl (h9) (lexD (T := tab) rfl ?_ (.nil _)))))))))) (by first | decide +kernel | kernel_rfl) ?_
    · exact zza
    · exact zza
    · exact zza
    · exact zza
    · exact zza
    exact tr_ret ⟨.inr rfl, _, _, rfl, zzp, rfl⟩
  · clear ho
    rw [eEx_mk]
    have hbi : FnD Tryd.prog 72 [.one (.e (eI 8))] (.one (.e (eI 6))) := binds_fn 8 (by decide) (by decide)
    repeat' (first | refine tr_seq ?_ | refine tr_block ?_ | refine tr_skip ?_ | refine tr_unroll 30 ?_ | refine rounds_go ?_ | refine tr_exit ?_ | refine reg (T := tab) tOk hnt rfl (by exact zzt) ?_ | refine regD (T := tab) tOk mixedR hnt rfl (by first | decide +kernel | kernel_rfl) (by exact zzt) ?_ | refine tr_cond rfl (fun hc => ?_) (fun hc => absurd (show true = false from hc) Bool.noConfusion) | refine tr_cond rfl (fun hc => absurd (show false = true from hc) Bool.noConfusion) (fun hc => ?_))
    repeat' first | refine zzs ?_ | refine zzb ?_ | refine zzk ?_
    refine tr_region (zzx hnt rfl ?_ (call rfl rfl rfl rfl rfl rfl rfl hnt (hbi) (zzx hnt rfl ?_ (Lex.nil _)))) ?_
    · exact zza
    · exact zza
    repeat' (first | refine tr_seq ?_ | refine tr_block ?_ | refine tr_skip ?_ | refine tr_unroll 30 ?_ | refine rounds_go ?_ | refine tr_exit ?_ | refine reg (T := tab) tOk hnt rfl (by exact zzt) ?_ | refine regD (T := tab) tOk mixedR hnt rfl (by first | decide +kernel | kernel_rfl) (by exact zzt) ?_ | refine tr_cond rfl (fun hc => ?_) (fun hc => absurd (show true = false from hc) Bool.noConfusion) | refine tr_cond rfl (fun hc => absurd (show false = true from hc) Bool.noConfusion) (fun hc => ?_))
    have h1 := insideF (l := 6) (l2 := left 8) rfl pa iha lena
    have h2 := insideF (l := 7) (l2 := lvF 8 + 1) rfl pb ihb lenb
    repeat' first | refine zzs ?_ | refine zzb ?_ | refine zzk ?_
    refine tr_draw (T := tab) tOk hnt mixedR (lexD (T := tab) rfl ?_ (callVD rfl rfl rfl rfl rfl rfl rfl rfl rfl (h1) (lexD (T := tab) rfl ?_ (callVD rfl rfl rfl rfl rfl rfl rfl rfl rfl (hm) (lexD (T := tab) rfl ?_ (callVD rfl rfl rfl rfl rfl rfl rfl rfl rfl (h2) (lexD (T := tab) rfl ?_ (callDU rfl rfl rfl rfl rfl rfl rfl rfl rfl (h9) (lexD (T := tab) rfl ?_ (.nil _)))))))))) (by first | decide +kernel | kernel_rfl) ?_
    · exact zza
    · exact zza
    · exact zza
    · exact zza
    · exact zza
    exact tr_ret ⟨.inr rfl, _, _, rfl, zzp, rfl⟩
  · clear ho
    rw [eEx_mk]
    have hbi : FnD Tryd.prog 72 [.one (.e (eI 9))] (.one (.e (eI 3))) := binds_fn 9 (by decide) (by decide)
    repeat' (first | refine tr_seq ?_ | refine tr_block ?_ | refine tr_skip ?_ | refine tr_unroll 30 ?_ | refine rounds_go ?_ | refine tr_exit ?_ | refine reg (T := tab) tOk hnt rfl (by exact zzt) ?_ | refine regD (T := tab) tOk mixedR hnt rfl (by first | decide +kernel | kernel_rfl) (by exact zzt) ?_ | refine tr_cond rfl (fun hc => ?_) (fun hc => absurd (show true = false from hc) Bool.noConfusion) | refine tr_cond rfl (fun hc => absurd (show false = true from hc) Bool.noConfusion) (fun hc => ?_))
    repeat' first | refine zzs ?_ | refine zzb ?_ | refine zzk ?_
    refine tr_region (zzx hnt rfl ?_ (call rfl rfl rfl rfl rfl rfl rfl hnt (hbi) (zzx hnt rfl ?_ (Lex.nil _)))) ?_
    · exact zza
    · exact zza
    repeat' (first | refine tr_seq ?_ | refine tr_block ?_ | refine tr_skip ?_ | refine tr_unroll 30 ?_ | refine rounds_go ?_ | refine tr_exit ?_ | refine reg (T := tab) tOk hnt rfl (by exact zzt) ?_ | refine regD (T := tab) tOk mixedR hnt rfl (by first | decide +kernel | kernel_rfl) (by exact zzt) ?_ | refine tr_cond rfl (fun hc => ?_) (fun hc => absurd (show true = false from hc) Bool.noConfusion) | refine tr_cond rfl (fun hc => absurd (show false = true from hc) Bool.noConfusion) (fun hc => ?_))
    have h1 := insideF (l := 4) (l2 := left 9) rfl pa iha lena
    have h2 := insideF (l := 4) (l2 := lvF 9 + 1) rfl pb ihb lenb
    repeat' first | refine zzs ?_ | refine zzb ?_ | refine zzk ?_
    refine tr_draw (T := tab) tOk hnt mixedR (lexD (T := tab) rfl ?_ (callVD rfl rfl rfl rfl rfl rfl rfl rfl rfl (h1) (lexD (T := tab) rfl ?_ (callVD rfl rfl rfl rfl rfl rfl rfl rfl rfl (hm) (lexD (T := tab) rfl ?_ (callVD rfl rfl rfl rfl rfl rfl rfl rfl rfl (h2) (lexD (T := tab) rfl ?_ (callDU rfl rfl rfl rfl rfl rfl rfl rfl rfl (h9) (lexD (T := tab) rfl ?_ (.nil _)))))))))) (by first | decide +kernel | kernel_rfl) ?_
    · exact zza
    · exact zza
    · exact zza
    · exact zza
    · exact zza
    exact tr_ret ⟨.inr rfl, _, _, rfl, zzp, rfl⟩
  · clear ho
    rw [eEx_mk]
    have hbi : FnD Tryd.prog 72 [.one (.e (eI 10))] (.one (.e (eI 3))) := binds_fn 10 (by decide) (by decide)
    repeat' (first | refine tr_seq ?_ | refine tr_block ?_ | refine tr_skip ?_ | refine tr_unroll 30 ?_ | refine rounds_go ?_ | refine tr_exit ?_ | refine reg (T := tab) tOk hnt rfl (by exact zzt) ?_ | refine regD (T := tab) tOk mixedR hnt rfl (by first | decide +kernel | kernel_rfl) (by exact zzt) ?_ | refine tr_cond rfl (fun hc => ?_) (fun hc => absurd (show true = false from hc) Bool.noConfusion) | refine tr_cond rfl (fun hc => absurd (show false = true from hc) Bool.noConfusion) (fun hc => ?_))
    repeat' first | refine zzs ?_ | refine zzb ?_ | refine zzk ?_
    refine tr_region (zzx hnt rfl ?_ (call rfl rfl rfl rfl rfl rfl rfl hnt (hbi) (zzx hnt rfl ?_ (Lex.nil _)))) ?_
    · exact zza
    · exact zza
    repeat' (first | refine tr_seq ?_ | refine tr_block ?_ | refine tr_skip ?_ | refine tr_unroll 30 ?_ | refine rounds_go ?_ | refine tr_exit ?_ | refine reg (T := tab) tOk hnt rfl (by exact zzt) ?_ | refine regD (T := tab) tOk mixedR hnt rfl (by first | decide +kernel | kernel_rfl) (by exact zzt) ?_ | refine tr_cond rfl (fun hc => ?_) (fun hc => absurd (show true = false from hc) Bool.noConfusion) | refine tr_cond rfl (fun hc => absurd (show false = true from hc) Bool.noConfusion) (fun hc => ?_))
    have h1 := insideF (l := 4) (l2 := left 10) rfl pa iha lena
    have h2 := insideF (l := 4) (l2 := lvF 10 + 1) rfl pb ihb lenb
    repeat' first | refine zzs ?_ | refine zzb ?_ | refine zzk ?_
    refine tr_draw (T := tab) tOk hnt mixedR (lexD (T := tab) rfl ?_ (callVD rfl rfl rfl rfl rfl rfl rfl rfl rfl (h1) (lexD (T := tab) rfl ?_ (callVD rfl rfl rfl rfl rfl rfl rfl rfl rfl (hm) (lexD (T := tab) rfl ?_ (callVD rfl rfl rfl rfl rfl rfl rfl rfl rfl (h2) (lexD (T := tab) rfl ?_ (callDU rfl rfl rfl rfl rfl rfl rfl rfl rfl (h9) (lexD (T := tab) rfl ?_ (.nil _)))))))))) (by first | decide +kernel | kernel_rfl) ?_
    · exact zza
    · exact zza
    · exact zza
    · exact zza
    · exact zza
    exact tr_ret ⟨.inr rfl, _, _, rfl, zzp, rfl⟩
  · clear ho
    rw [eEx_mk]
    have hbi : FnD Tryd.prog 72 [.one (.e (eI 11))] (.one (.e (eI 3))) := binds_fn 11 (by decide) (by decide)
    repeat' (first | refine tr_seq ?_ | refine tr_block ?_ | refine tr_skip ?_ | refine tr_unroll 30 ?_ | refine rounds_go ?_ | refine tr_exit ?_ | refine reg (T := tab) tOk hnt rfl (by exact zzt) ?_ | refine regD (T := tab) tOk mixedR hnt rfl (by first | decide +kernel | kernel_rfl) (by exact zzt) ?_ | refine tr_cond rfl (fun hc => ?_) (fun hc => absurd (show true = false from hc) Bool.noConfusion) | refine tr_cond rfl (fun hc => absurd (show false = true from hc) Bool.noConfusion) (fun hc => ?_))
    repeat' first | refine zzs ?_ | refine zzb ?_ | refine zzk ?_
    refine tr_region (zzx hnt rfl ?_ (call rfl rfl rfl rfl rfl rfl rfl hnt (hbi) (zzx hnt rfl ?_ (Lex.nil _)))) ?_
    · exact zza
    · exact zza
    repeat' (first | refine tr_seq ?_ | refine tr_block ?_ | refine tr_skip ?_ | refine tr_unroll 30 ?_ | refine rounds_go ?_ | refine tr_exit ?_ | refine reg (T := tab) tOk hnt rfl (by exact zzt) ?_ | refine regD (T := tab) tOk mixedR hnt rfl (by first | decide +kernel | kernel_rfl) (by exact zzt) ?_ | refine tr_cond rfl (fun hc => ?_) (fun hc => absurd (show true = false from hc) Bool.noConfusion) | refine tr_cond rfl (fun hc => absurd (show false = true from hc) Bool.noConfusion) (fun hc => ?_))
    have h1 := insideF (l := 4) (l2 := left 11) rfl pa iha lena
    have h2 := insideF (l := 4) (l2 := lvF 11 + 1) rfl pb ihb lenb
    repeat' first | refine zzs ?_ | refine zzb ?_ | refine zzk ?_
    refine tr_draw (T := tab) tOk hnt mixedR (lexD (T := tab) rfl ?_ (callVD rfl rfl rfl rfl rfl rfl rfl rfl rfl (h1) (lexD (T := tab) rfl ?_ (callVD rfl rfl rfl rfl rfl rfl rfl rfl rfl (hm) (lexD (T := tab) rfl ?_ (callVD rfl rfl rfl rfl rfl rfl rfl rfl rfl (h2) (lexD (T := tab) rfl ?_ (callDU rfl rfl rfl rfl rfl rfl rfl rfl rfl (h9) (lexD (T := tab) rfl ?_ (.nil _)))))))))) (by first | decide +kernel | kernel_rfl) ?_
    · exact zza
    · exact zza
    · exact zza
    · exact zza
    · exact zza
    exact tr_ret ⟨.inr rfl, _, _, rfl, zzp, rfl⟩
  · clear ho
    rw [eEx_mk]
    have hbi : FnD Tryd.prog 72 [.one (.e (eI 12))] (.one (.e (eI 3))) := binds_fn 12 (by decide) (by decide)
    repeat' (first | refine tr_seq ?_ | refine tr_block ?_ | refine tr_skip ?_ | refine tr_unroll 30 ?_ | refine rounds_go ?_ | refine tr_exit ?_ | refine reg (T := tab) tOk hnt rfl (by exact zzt) ?_ | refine regD (T := tab) tOk mixedR hnt rfl (by first | decide +kernel | kernel_rfl) (by exact zzt) ?_ | refine tr_cond rfl (fun hc => ?_) (fun hc => absurd (show true = false from hc) Bool.noConfusion) | refine tr_cond rfl (fun hc => absurd (show false = true from hc) Bool.noConfusion) (fun hc => ?_))
    repeat' first | refine zzs ?_ | refine zzb ?_ | refine zzk ?_
    refine tr_region (zzx hnt rfl ?_ (call rfl rfl rfl rfl rfl rfl rfl hnt (hbi) (zzx hnt rfl ?_ (Lex.nil _)))) ?_
    · exact zza
    · exact zza
    repeat' (first | refine tr_seq ?_ | refine tr_block ?_ | refine tr_skip ?_ | refine tr_unroll 30 ?_ | refine rounds_go ?_ | refine tr_exit ?_ | refine reg (T := tab) tOk hnt rfl (by exact zzt) ?_ | refine regD (T := tab) tOk mixedR hnt rfl (by first | decide +kernel | kernel_rfl) (by exact zzt) ?_ | refine tr_cond rfl (fun hc => ?_) (fun hc => absurd (show true = false from hc) Bool.noConfusion) | refine tr_cond rfl (fun hc => absurd (show false = true from hc) Bool.noConfusion) (fun hc => ?_))
    have h1 := insideF (l := 4) (l2 := left 12) rfl pa iha lena
    have h2 := insideF (l := 4) (l2 := lvF 12 + 1) rfl pb ihb lenb
    repeat' first | refine zzs ?_ | refine zzb ?_ | refine zzk ?_
    refine tr_draw (T := tab) tOk hnt mixedR (lexD (T := tab) rfl ?_ (callVD rfl rfl rfl rfl rfl rfl rfl rfl rfl (h1) (lexD (T := tab) rfl ?_ (callVD rfl rfl rfl rfl rfl rfl rfl rfl rfl (hm) (lexD (T := tab) rfl ?_ (callVD rfl rfl rfl rfl rfl rfl rfl rfl rfl (h2) (lexD (T := tab) rfl ?_ (callDU rfl rfl rfl rfl rfl rfl rfl rfl rfl (h9) (lexD (T := tab) rfl ?_ (.nil _)))))))))) (by first | decide +kernel | kernel_rfl) ?_
    · exact zza
    · exact zza
    · exact zza
    · exact zza
    · exact zza
    exact tr_ret ⟨.inr rfl, _, _, rfl, zzp, rfl⟩
  · clear ho
    rw [eEx_mk]
    have hbi : FnD Tryd.prog 72 [.one (.e (eI 13))] (.one (.e (eI 3))) := binds_fn 13 (by decide) (by decide)
    repeat' (first | refine tr_seq ?_ | refine tr_block ?_ | refine tr_skip ?_ | refine tr_unroll 30 ?_ | refine rounds_go ?_ | refine tr_exit ?_ | refine reg (T := tab) tOk hnt rfl (by exact zzt) ?_ | refine regD (T := tab) tOk mixedR hnt rfl (by first | decide +kernel | kernel_rfl) (by exact zzt) ?_ | refine tr_cond rfl (fun hc => ?_) (fun hc => absurd (show true = false from hc) Bool.noConfusion) | refine tr_cond rfl (fun hc => absurd (show false = true from hc) Bool.noConfusion) (fun hc => ?_))
    repeat' first | refine zzs ?_ | refine zzb ?_ | refine zzk ?_
    refine tr_region (zzx hnt rfl ?_ (call rfl rfl rfl rfl rfl rfl rfl hnt (hbi) (zzx hnt rfl ?_ (Lex.nil _)))) ?_
    · exact zza
    · exact zza
    repeat' (first | refine tr_seq ?_ | refine tr_block ?_ | refine tr_skip ?_ | refine tr_unroll 30 ?_ | refine rounds_go ?_ | refine tr_exit ?_ | refine reg (T := tab) tOk hnt rfl (by exact zzt) ?_ | refine regD (T := tab) tOk mixedR hnt rfl (by first | decide +kernel | kernel_rfl) (by exact zzt) ?_ | refine tr_cond rfl (fun hc => ?_) (fun hc => absurd (show true = false from hc) Bool.noConfusion) | refine tr_cond rfl (fun hc => absurd (show false = true from hc) Bool.noConfusion) (fun hc => ?_))
    have h1 := insideF (l := 4) (l2 := left 13) rfl pa iha lena
    have h2 := insideF (l := 4) (l2 := lvF 13 + 1) rfl pb ihb lenb
    repeat' first | refine zzs ?_ | refine zzb ?_ | refine zzk ?_
    refine tr_draw (T := tab) tOk hnt mixedR (lexD (T := tab) rfl ?_ (callVD rfl rfl rfl rfl rfl rfl rfl rfl rfl (h1) (lexD (T := tab) rfl ?_ (callVD rfl rfl rfl rfl rfl rfl rfl rfl rfl (hm) (lexD (T := tab) rfl ?_ (callVD rfl rfl rfl rfl rfl rfl rfl rfl rfl (h2) (lexD (T := tab) rfl ?_ (callDU rfl rfl rfl rfl rfl rfl rfl rfl rfl (h9) (lexD (T := tab) rfl ?_ (.nil _)))))))))) (by first | decide +kernel | kernel_rfl) ?_
    · exact zza
    · exact zza
    · exact zza
    · exact zza
    · exact zza
    exact tr_ret ⟨.inr rfl, _, _, rfl, zzp, rfl⟩
  · clear ho
    rw [eEx_mk]
    have hbi : FnD Tryd.prog 72 [.one (.e (eI 14))] (.one (.e (eI 3))) := binds_fn 14 (by decide) (by decide)
    repeat' (first | refine tr_seq ?_ | refine tr_block ?_ | refine tr_skip ?_ | refine tr_unroll 30 ?_ | refine rounds_go ?_ | refine tr_exit ?_ | refine reg (T := tab) tOk hnt rfl (by exact zzt) ?_ | refine regD (T := tab) tOk mixedR hnt rfl (by first | decide +kernel | kernel_rfl) (by exact zzt) ?_ | refine tr_cond rfl (fun hc => ?_) (fun hc => absurd (show true = false from hc) Bool.noConfusion) | refine tr_cond rfl (fun hc => absurd (show false = true from hc) Bool.noConfusion) (fun hc => ?_))
    repeat' first | refine zzs ?_ | refine zzb ?_ | refine zzk ?_
    refine tr_region (zzx hnt rfl ?_ (call rfl rfl rfl rfl rfl rfl rfl hnt (hbi) (zzx hnt rfl ?_ (Lex.nil _)))) ?_
    · exact zza
    · exact zza
    repeat' (first | refine tr_seq ?_ | refine tr_block ?_ | refine tr_skip ?_ | refine tr_unroll 30 ?_ | refine rounds_go ?_ | refine tr_exit ?_ | refine reg (T := tab) tOk hnt rfl (by exact zzt) ?_ | refine regD (T := tab) tOk mixedR hnt rfl (by first | decide +kernel | kernel_rfl) (by exact zzt) ?_ | refine tr_cond rfl (fun hc => ?_) (fun hc => absurd (show true = false from hc) Bool.noConfusion) | refine tr_cond rfl (fun hc => absurd (show false = true from hc) Bool.noConfusion) (fun hc => ?_))
    have h1 := insideF (l := 4) (l2 := left 14) rfl pa iha lena
    have h2 := insideF (l := 4) (l2 := lvF 14 + 1) rfl pb ihb lenb
    repeat' first | refine zzs ?_ | refine zzb ?_ | refine zzk ?_
    refine tr_draw (T := tab) tOk hnt mixedR (lexD (T := tab) rfl ?_ (callVD rfl rfl rfl rfl rfl rfl rfl rfl rfl (h1) (lexD (T := tab) rfl ?_ (callVD rfl rfl rfl rfl rfl rfl rfl rfl rfl (hm) (lexD (T := tab) rfl ?_ (callVD rfl rfl rfl rfl rfl rfl rfl rfl rfl (h2) (lexD (T := tab) rfl ?_ (callDU rfl rfl rfl rfl rfl rfl rfl rfl rfl (h9) (lexD (T := tab) rfl ?_ (.nil _)))))))))) (by first | decide +kernel | kernel_rfl) ?_
    · exact zza
    · exact zza
    · exact zza
    · exact zza
    · exact zza
    exact tr_ret ⟨.inr rfl, _, _, rfl, zzp, rfl⟩
  · clear ho
    rw [eEx_mk]
    have hbi : FnD Tryd.prog 72 [.one (.e (eI 15))] (.one (.e (eI 1))) := binds_fn 15 (by decide) (by decide)
    repeat' (first | refine tr_seq ?_ | refine tr_block ?_ | refine tr_skip ?_ | refine tr_unroll 30 ?_ | refine rounds_go ?_ | refine tr_exit ?_ | refine reg (T := tab) tOk hnt rfl (by exact zzt) ?_ | refine regD (T := tab) tOk mixedR hnt rfl (by first | decide +kernel | kernel_rfl) (by exact zzt) ?_ | refine tr_cond rfl (fun hc => ?_) (fun hc => absurd (show true = false from hc) Bool.noConfusion) | refine tr_cond rfl (fun hc => absurd (show false = true from hc) Bool.noConfusion) (fun hc => ?_))
    repeat' first | refine zzs ?_ | refine zzb ?_ | refine zzk ?_
    refine tr_region (zzx hnt rfl ?_ (call rfl rfl rfl rfl rfl rfl rfl hnt (hbi) (zzx hnt rfl ?_ (Lex.nil _)))) ?_
    · exact zza
    · exact zza
    repeat' (first | refine tr_seq ?_ | refine tr_block ?_ | refine tr_skip ?_ | refine tr_unroll 30 ?_ | refine rounds_go ?_ | refine tr_exit ?_ | refine reg (T := tab) tOk hnt rfl (by exact zzt) ?_ | refine regD (T := tab) tOk mixedR hnt rfl (by first | decide +kernel | kernel_rfl) (by exact zzt) ?_ | refine tr_cond rfl (fun hc => ?_) (fun hc => absurd (show true = false from hc) Bool.noConfusion) | refine tr_cond rfl (fun hc => absurd (show false = true from hc) Bool.noConfusion) (fun hc => ?_))
    have h1 := insideF (l := 1) (l2 := left 15) rfl pa iha lena
    have h2 := insideF (l := 2) (l2 := lvF 15 + 1) rfl pb ihb lenb
    repeat' first | refine zzs ?_ | refine zzb ?_ | refine zzk ?_
    refine tr_draw (T := tab) tOk hnt mixedR (lexD (T := tab) rfl ?_ (callVD rfl rfl rfl rfl rfl rfl rfl rfl rfl (h1) (lexD (T := tab) rfl ?_ (callVD rfl rfl rfl rfl rfl rfl rfl rfl rfl (hm) (lexD (T := tab) rfl ?_ (callVD rfl rfl rfl rfl rfl rfl rfl rfl rfl (h2) (lexD (T := tab) rfl ?_ (callDU rfl rfl rfl rfl rfl rfl rfl rfl rfl (h9) (lexD (T := tab) rfl ?_ (.nil _)))))))))) (by first | decide +kernel | kernel_rfl) ?_
    · exact zza
    · exact zza
    · exact zza
    · exact zza
    · exact zza
    exact tr_ret ⟨.inr rfl, _, _, rfl, zzp, rfl⟩
  · clear ho
    rw [eEx_mk]
    have hbi : FnD Tryd.prog 72 [.one (.e (eI 16))] (.one (.e (eI 0))) := binds_fn 16 (by decide) (by decide)
    repeat' (first | refine tr_seq ?_ | refine tr_block ?_ | refine tr_skip ?_ | refine tr_unroll 30 ?_ | refine rounds_go ?_ | refine tr_exit ?_ | refine reg (T := tab) tOk hnt rfl (by exact zzt) ?_ | refine regD (T := tab) tOk mixedR hnt rfl (by first | decide +kernel | kernel_rfl) (by exact zzt) ?_ | refine tr_cond rfl (fun hc => ?_) (fun hc => absurd (show true = false from hc) Bool.noConfusion) | refine tr_cond rfl (fun hc => absurd (show false = true from hc) Bool.noConfusion) (fun hc => ?_))
    repeat' first | refine zzs ?_ | refine zzb ?_ | refine zzk ?_
    refine tr_region (zzx hnt rfl ?_ (call rfl rfl rfl rfl rfl rfl rfl hnt (hbi) (zzx hnt rfl ?_ (Lex.nil _)))) ?_
    · exact zza
    · exact zza
    repeat' (first | refine tr_seq ?_ | refine tr_block ?_ | refine tr_skip ?_ | refine tr_unroll 30 ?_ | refine rounds_go ?_ | refine tr_exit ?_ | refine reg (T := tab) tOk hnt rfl (by exact zzt) ?_ | refine regD (T := tab) tOk mixedR hnt rfl (by first | decide +kernel | kernel_rfl) (by exact zzt) ?_ | refine tr_cond rfl (fun hc => ?_) (fun hc => absurd (show true = false from hc) Bool.noConfusion) | refine tr_cond rfl (fun hc => absurd (show false = true from hc) Bool.noConfusion) (fun hc => ?_))
    have h1 := insideF (l := 0) (l2 := left 16) rfl pa iha lena
    have h2 := insideF (l := 1) (l2 := lvF 16 + 1) rfl pb ihb lenb
    repeat' first | refine zzs ?_ | refine zzb ?_ | refine zzk ?_
    refine tr_draw (T := tab) tOk hnt mixedR (lexD (T := tab) rfl ?_ (callVD rfl rfl rfl rfl rfl rfl rfl rfl rfl (h1) (lexD (T := tab) rfl ?_ (callVD rfl rfl rfl rfl rfl rfl rfl rfl rfl (hm) (lexD (T := tab) rfl ?_ (callVD rfl rfl rfl rfl rfl rfl rfl rfl rfl (h2) (lexD (T := tab) rfl ?_ (callDU rfl rfl rfl rfl rfl rfl rfl rfl rfl (h9) (lexD (T := tab) rfl ?_ (.nil _)))))))))) (by first | decide +kernel | kernel_rfl) ?_
    · exact zza
    · exact zza
    · exact zza
    · exact zza
    · exact zza
    exact tr_ret ⟨.inr rfl, _, _, rfl, zzp, rfl⟩
  · clear ho
    rw [eEx_mk]
    have hbi : FnD Tryd.prog 72 [.one (.e (eI 19))] (.one (.e (eI 4))) := binds_fn 19 (by decide) (by decide)
    repeat' (first | refine tr_seq ?_ | refine tr_block ?_ | refine tr_skip ?_ | refine tr_unroll 30 ?_ | refine rounds_go ?_ | refine tr_exit ?_ | refine reg (T := tab) tOk hnt rfl (by exact zzt) ?_ | refine regD (T := tab) tOk mixedR hnt rfl (by first | decide +kernel | kernel_rfl) (by exact zzt) ?_ | refine tr_cond rfl (fun hc => ?_) (fun hc => absurd (show true = false from hc) Bool.noConfusion) | refine tr_cond rfl (fun hc => absurd (show false = true from hc) Bool.noConfusion) (fun hc => ?_))
    repeat' first | refine zzs ?_ | refine zzb ?_ | refine zzk ?_
    refine tr_region (zzx hnt rfl ?_ (call rfl rfl rfl rfl rfl rfl rfl hnt (hbi) (zzx hnt rfl ?_ (Lex.nil _)))) ?_
    · exact zza
    · exact zza
    repeat' (first | refine tr_seq ?_ | refine tr_block ?_ | refine tr_skip ?_ | refine tr_unroll 30 ?_ | refine rounds_go ?_ | refine tr_exit ?_ | refine reg (T := tab) tOk hnt rfl (by exact zzt) ?_ | refine regD (T := tab) tOk mixedR hnt rfl (by first | decide +kernel | kernel_rfl) (by exact zzt) ?_ | refine tr_cond rfl (fun hc => ?_) (fun hc => absurd (show true = false from hc) Bool.noConfusion) | refine tr_cond rfl (fun hc => absurd (show false = true from hc) Bool.noConfusion) (fun hc => ?_))
    have h1 := insideF (l := 4) (l2 := left 19) rfl pa iha lena
    have h2 := insideF (l := 5) (l2 := lvF 19 + 1) rfl pb ihb lenb
    repeat' first | refine zzs ?_ | refine zzb ?_ | refine zzk ?_
    refine tr_draw (T := tab) tOk hnt mixedR (lexD (T := tab) rfl ?_ (callVD rfl rfl rfl rfl rfl rfl rfl rfl rfl (h1) (lexD (T := tab) rfl ?_ (callVD rfl rfl rfl rfl rfl rfl rfl rfl rfl (hm) (lexD (T := tab) rfl ?_ (callVD rfl rfl rfl rfl rfl rfl rfl rfl rfl (h2) (lexD (T := tab) rfl ?_ (callDU rfl rfl rfl rfl rfl rfl rfl rfl rfl (h9) (lexD (T := tab) rfl ?_ (.nil _)))))))))) (by first | decide +kernel | kernel_rfl) ?_
    · exact zza
    · exact zza
    · exact zza
    · exact zza
    · exact zza
    exact tr_ret ⟨.inr rfl, _, _, rfl, zzp, rfl⟩
end Go.Proofs.YthnadkafegmacaaDoor
