/- The document's expression shown: all operations. No condition. -/
import Derived.Test.YthnadkafegmacaaDoorTXsG
namespace Go.Proofs.YthnadkafegmacaaDoor
open Go Go.RowKit Go.Proofs.YthnadkafegmacaaDoor.Ab
set_option linter.unusedSimpArgs false
set_option linter.unusedVariables false

theorem shF_len {x : Ex} (h : (shX x).length ≤ 998) (l : Int) : (shF x l).length ≤ 1000 := by
  have := brk_len l (x.op, shX x)
  show (brk l (x.op, shX x)).length ≤ 1000
  dsimp only at this
  omega
theorem insideF {l l2 : Int} {x : Ex} (h : l2 = l + 1) (h1 : 1 ≤ x.op ∧ x.op ≤ 20) (ih : Shown x) (hb : (shX x).length ≤ 998) : FnG Tryd.prog 76 [(6, spE), (2, mkE)] [.agg (.es (List.take 7 (List.drop 0 (eEx x)))), .one (.e (eI l))] (.one (.e (eTks (shF x l2)))) := by
  rw [h, exAll]
  exact inside_fn l x h1.1 h1.2 ih (by omega)
theorem shownF {x : Ex} (ih : Shown x) : FnG Tryd.prog 35 [(6, spE), (2, mkE)] [.agg (.es (List.take 7 (List.drop 0 (eEx x))))] (.one (.e (eTks (shX x)))) := by
  rw [exAll]
  exact ih
set_option maxRecDepth 10000 in
set_option maxHeartbeats 2000000 in
theorem shown_lit (v : Val) (n : Byt) (hv : v.k = 1 → v.i = 0 ∨ v.i = 1) : FnG Tryd.prog 35 ([(6, spE), (2, mkE)]) [.agg (.es (eEx (.mk 1 v n [])))] (.one (.e (eTks [ltT v]))) := by
  refine fn_introG (T := tab) tOk Tryd.func35 rfl (by kernel_rfl) (by simp [Tryd.ntmps35]) ?_
  intro X hX
  have hnt : X.nt = 105 := hX
  clear hX
  rw [eEx_mk]
  have hbi : FnD Tryd.prog 72 [.one (.e (eI 1))] (.one (.e (eI 8))) := binds_fn 1 (by decide) (by decide)
  repeat' (first | refine tr_seq ?_ | refine tr_block ?_ | refine tr_skip ?_ | refine tr_unroll 30 ?_ | refine rounds_go ?_ | refine tr_exit ?_ | refine reg (T := tab) tOk hnt rfl (by exact zzt) ?_ | refine regD (T := tab) tOk mixedR hnt rfl (by first | decide +kernel | kernel_rfl) (by exact zzt) ?_ | refine tr_cond rfl (fun hc => ?_) (fun hc => absurd (show true = false from hc) Bool.noConfusion) | refine tr_cond rfl (fun hc => absurd (show false = true from hc) Bool.noConfusion) (fun hc => ?_))
  repeat' first | refine zzs ?_ | refine zzb ?_ | refine zzk ?_
  refine tr_region (zzx hnt rfl ?_ (call rfl rfl rfl rfl rfl rfl rfl hnt (hbi) (zzx hnt rfl ?_ (Lex.nil _)))) ?_
  · exact zza
  · exact zza
  repeat' (first | refine tr_seq ?_ | refine tr_block ?_ | refine tr_skip ?_ | refine tr_unroll 30 ?_ | refine rounds_go ?_ | refine tr_exit ?_ | refine reg (T := tab) tOk hnt rfl (by exact zzt) ?_ | refine regD (T := tab) tOk mixedR hnt rfl (by first | decide +kernel | kernel_rfl) (by exact zzt) ?_ | refine tr_cond rfl (fun hc => ?_) (fun hc => absurd (show true = false from hc) Bool.noConfusion) | refine tr_cond rfl (fun hc => absurd (show false = true from hc) Bool.noConfusion) (fun hc => ?_))
  have h1 := litTokens_fn v hv
  repeat' first | refine zzs ?_ | refine zzb ?_ | refine zzk ?_
  refine tr_region (zzx hnt rfl ?_ (callV rfl rfl rfl rfl rfl rfl rfl hnt rfl (h1) (zzx hnt rfl ?_ (Lex.nil _)))) ?_
  · exact zza
  · exact zza
  exact tr_ret ⟨.inr rfl, _, _, rfl, zzp, rfl⟩
set_option maxRecDepth 10000 in
set_option maxHeartbeats 2000000 in
theorem shown_col (v : Val) (n : Byt) : FnG Tryd.prog 35 ([(6, spE), (2, mkE)]) [.agg (.es (eEx (.mk 2 v n [])))] (.one (.e (eTks [⟨1, n, 0, 0⟩]))) := by
  refine fn_introG (T := tab) tOk Tryd.func35 rfl (by kernel_rfl) (by simp [Tryd.ntmps35]) ?_
  intro X hX
  have hnt : X.nt = 105 := hX
  clear hX
  rw [eEx_mk]
  have hbi : FnD Tryd.prog 72 [.one (.e (eI 2))] (.one (.e (eI 8))) := binds_fn 2 (by decide) (by decide)
  repeat' (first | refine tr_seq ?_ | refine tr_block ?_ | refine tr_skip ?_ | refine tr_unroll 30 ?_ | refine rounds_go ?_ | refine tr_exit ?_ | refine reg (T := tab) tOk hnt rfl (by exact zzt) ?_ | refine regD (T := tab) tOk mixedR hnt rfl (by first | decide +kernel | kernel_rfl) (by exact zzt) ?_ | refine tr_cond rfl (fun hc => ?_) (fun hc => absurd (show true = false from hc) Bool.noConfusion) | refine tr_cond rfl (fun hc => absurd (show false = true from hc) Bool.noConfusion) (fun hc => ?_))
  repeat' first | refine zzs ?_ | refine zzb ?_ | refine zzk ?_
  refine tr_region (zzx hnt rfl ?_ (call rfl rfl rfl rfl rfl rfl rfl hnt (hbi) (zzx hnt rfl ?_ (Lex.nil _)))) ?_
  · exact zza
  · exact zza
  repeat' (first | refine tr_seq ?_ | refine tr_block ?_ | refine tr_skip ?_ | refine tr_unroll 30 ?_ | refine rounds_go ?_ | refine tr_exit ?_ | refine reg (T := tab) tOk hnt rfl (by exact zzt) ?_ | refine regD (T := tab) tOk mixedR hnt rfl (by first | decide +kernel | kernel_rfl) (by exact zzt) ?_ | refine tr_cond rfl (fun hc => ?_) (fun hc => absurd (show true = false from hc) Bool.noConfusion) | refine tr_cond rfl (fun hc => absurd (show false = true from hc) Bool.noConfusion) (fun hc => ?_))
  exact tr_ret ⟨.inr rfl, _, _, rfl, zzp, rfl⟩
set_option maxRecDepth 10000 in
set_option maxHeartbeats 2000000 in
theorem shown_neg (v : Val) (n : Byt) (a : Ex) (pa : 1 ≤ a.op ∧ a.op ≤ 20) (iha : Shown a) (lena : (shX a).length ≤ 998) : FnG Tryd.prog 35 ([(6, spE), (2, mkE)]) [.agg (.es (eEx (.mk 3 v n [a])))] (.one (.e (eTks ([sgT [45]] ++ shF a (lvF 3))))) := by
  refine fn_introG (T := tab) tOk Tryd.func35 rfl (by kernel_rfl) (by simp [Tryd.ntmps35]) ?_
  intro X hX
  have hnt : X.nt = 105 := hX
  clear hX
  have fa : 0 + 7 ≤ (Cs.es (eEx a)).len := by have := ex7 a; show 0 + 7 ≤ (eEx a).length; omega
  have ga : (eEx a).length = 7 := ex7 a
  have q0 : (0 : Int) < ((1 : Nat) : Int) := by decide
  rw [eEx_mk]
  have hbi : FnD Tryd.prog 72 [.one (.e (eI 3))] (.one (.e (eI 7))) := binds_fn 3 (by decide) (by decide)
  repeat' (first | refine tr_seq ?_ | refine tr_block ?_ | refine tr_skip ?_ | refine tr_unroll 30 ?_ | refine rounds_go ?_ | refine tr_exit ?_ | refine reg (T := tab) tOk hnt rfl (by exact zzt) ?_ | refine regD (T := tab) tOk mixedR hnt rfl (by first | decide +kernel | kernel_rfl) (by exact zzt) ?_ | refine tr_cond rfl (fun hc => ?_) (fun hc => absurd (show true = false from hc) Bool.noConfusion) | refine tr_cond rfl (fun hc => absurd (show false = true from hc) Bool.noConfusion) (fun hc => ?_))
  repeat' first | refine zzs ?_ | refine zzb ?_ | refine zzk ?_
  refine tr_region (zzx hnt rfl ?_ (call rfl rfl rfl rfl rfl rfl rfl hnt (hbi) (zzx hnt rfl ?_ (Lex.nil _)))) ?_
  · exact zza
  · exact zza
  repeat' (first | refine tr_seq ?_ | refine tr_block ?_ | refine tr_skip ?_ | refine tr_unroll 30 ?_ | refine rounds_go ?_ | refine tr_exit ?_ | refine reg (T := tab) tOk hnt rfl (by exact zzt) ?_ | refine regD (T := tab) tOk mixedR hnt rfl (by first | decide +kernel | kernel_rfl) (by exact zzt) ?_ | refine tr_cond rfl (fun hc => ?_) (fun hc => absurd (show true = false from hc) Bool.noConfusion) | refine tr_cond rfl (fun hc => absurd (show false = true from hc) Bool.noConfusion) (fun hc => ?_))
  have h1 := tokens_a
  have h2 := insideF (l := 7) (l2 := lvF 3) rfl pa iha lena
  have l2 := shF_len lena (lvF 3)
  have h9 := cat_fn [[sgT [45]], shF a (lvF 3)] (Nat.le_of_ble_eq_true rfl) (by simp; omega)
  rw [show ([[sgT [45]], shF a (lvF 3)] : List (List Tok)).flatten = [sgT [45]] ++ shF a (lvF 3) from by simp] at h9
  repeat' first | refine zzs ?_ | refine zzb ?_ | refine zzk ?_
  refine tr_draw (T := tab) tOk hnt mixedR (lexD (T := tab) rfl ?_ (callVD rfl rfl rfl rfl rfl rfl rfl rfl rfl (h1) (lexD (T := tab) rfl ?_ (callVD rfl rfl rfl rfl rfl rfl rfl rfl rfl (h2) (lexD (T := tab) rfl ?_ (callDU rfl rfl rfl rfl rfl rfl rfl rfl rfl (h9) (lexD (T := tab) rfl ?_ (.nil _)))))))) (by first | decide +kernel | kernel_rfl) ?_
  · exact zza
  · exact zza
  · exact zza
  · exact zza
  exact tr_ret ⟨.inr rfl, _, _, rfl, zzp, rfl⟩
set_option maxRecDepth 10000 in
set_option maxHeartbeats 2000000 in
theorem shown_not (v : Val) (n : Byt) (a : Ex) (pa : 1 ≤ a.op ∧ a.op ≤ 20) (iha : Shown a) (lena : (shX a).length ≤ 998) : FnG Tryd.prog 35 ([(6, spE), (2, mkE)]) [.agg (.es (eEx (.mk 4 v n [a])))] (.one (.e (eTks ([wdT [78,79,84]] ++ shF a (lvF 4))))) := by
  refine fn_introG (T := tab) tOk Tryd.func35 rfl (by kernel_rfl) (by simp [Tryd.ntmps35]) ?_
  intro X hX
  have hnt : X.nt = 105 := hX
  clear hX
  have fa : 0 + 7 ≤ (Cs.es (eEx a)).len := by have := ex7 a; show 0 + 7 ≤ (eEx a).length; omega
  have ga : (eEx a).length = 7 := ex7 a
  have q0 : (0 : Int) < ((1 : Nat) : Int) := by decide
  rw [eEx_mk]
  have hbi : FnD Tryd.prog 72 [.one (.e (eI 4))] (.one (.e (eI 2))) := binds_fn 4 (by decide) (by decide)
  repeat' (first | refine tr_seq ?_ | refine tr_block ?_ | refine tr_skip ?_ | refine tr_unroll 30 ?_ | refine rounds_go ?_ | refine tr_exit ?_ | refine reg (T := tab) tOk hnt rfl (by exact zzt) ?_ | refine regD (T := tab) tOk mixedR hnt rfl (by first | decide +kernel | kernel_rfl) (by exact zzt) ?_ | refine tr_cond rfl (fun hc => ?_) (fun hc => absurd (show true = false from hc) Bool.noConfusion) | refine tr_cond rfl (fun hc => absurd (show false = true from hc) Bool.noConfusion) (fun hc => ?_))
  repeat' first | refine zzs ?_ | refine zzb ?_ | refine zzk ?_
  refine tr_region (zzx hnt rfl ?_ (call rfl rfl rfl rfl rfl rfl rfl hnt (hbi) (zzx hnt rfl ?_ (Lex.nil _)))) ?_
  · exact zza
  · exact zza
  repeat' (first | refine tr_seq ?_ | refine tr_block ?_ | refine tr_skip ?_ | refine tr_unroll 30 ?_ | refine rounds_go ?_ | refine tr_exit ?_ | refine reg (T := tab) tOk hnt rfl (by exact zzt) ?_ | refine regD (T := tab) tOk mixedR hnt rfl (by first | decide +kernel | kernel_rfl) (by exact zzt) ?_ | refine tr_cond rfl (fun hc => ?_) (fun hc => absurd (show true = false from hc) Bool.noConfusion) | refine tr_cond rfl (fun hc => absurd (show false = true from hc) Bool.noConfusion) (fun hc => ?_))
  have h1 := tokens_b
  have h2 := insideF (l := 2) (l2 := lvF 4) rfl pa iha lena
  have l2 := shF_len lena (lvF 4)
  have h9 := cat_fn [[wdT [78,79,84]], shF a (lvF 4)] (Nat.le_of_ble_eq_true rfl) (by simp; omega)
  rw [show ([[wdT [78,79,84]], shF a (lvF 4)] : List (List Tok)).flatten = [wdT [78,79,84]] ++ shF a (lvF 4) from by simp] at h9
  repeat' first | refine zzs ?_ | refine zzb ?_ | refine zzk ?_
  refine tr_draw (T := tab) tOk hnt mixedR (lexD (T := tab) rfl ?_ (callVD rfl rfl rfl rfl rfl rfl rfl rfl rfl (h1) (lexD (T := tab) rfl ?_ (callVD rfl rfl rfl rfl rfl rfl rfl rfl rfl (h2) (lexD (T := tab) rfl ?_ (callDU rfl rfl rfl rfl rfl rfl rfl rfl rfl (h9) (lexD (T := tab) rfl ?_ (.nil _)))))))) (by first | decide +kernel | kernel_rfl) ?_
  · exact zza
  · exact zza
  · exact zza
  · exact zza
  exact tr_ret ⟨.inr rfl, _, _, rfl, zzp, rfl⟩
set_option maxRecDepth 10000 in
set_option maxHeartbeats 2000000 in
theorem shown_isn (v : Val) (n : Byt) (a : Ex) (pa : 1 ≤ a.op ∧ a.op ≤ 20) (iha : Shown a) (lena : (shX a).length ≤ 998) : FnG Tryd.prog 35 ([(6, spE), (2, mkE)]) [.agg (.es (eEx (.mk 17 v n [a])))] (.one (.e (eTks (shF a 5 ++ [wdT [73,83], wdT [78,85,76,76]])))) := by
  refine fn_introG (T := tab) tOk Tryd.func35 rfl (by kernel_rfl) (by simp [Tryd.ntmps35]) ?_
  intro X hX
  have hnt : X.nt = 105 := hX
  clear hX
  have fa : 0 + 7 ≤ (Cs.es (eEx a)).len := by have := ex7 a; show 0 + 7 ≤ (eEx a).length; omega
  have ga : (eEx a).length = 7 := ex7 a
  have q0 : (0 : Int) < ((1 : Nat) : Int) := by decide
  rw [eEx_mk]
  have hbi : FnD Tryd.prog 72 [.one (.e (eI 17))] (.one (.e (eI 3))) := binds_fn 17 (by decide) (by decide)
  repeat' (first | refine tr_seq ?_ | refine tr_block ?_ | refine tr_skip ?_ | refine tr_unroll 30 ?_ | refine rounds_go ?_ | refine tr_exit ?_ | refine reg (T := tab) tOk hnt rfl (by exact zzt) ?_ | refine regD (T := tab) tOk mixedR hnt rfl (by first | decide +kernel | kernel_rfl) (by exact zzt) ?_ | refine tr_cond rfl (fun hc => ?_) (fun hc => absurd (show true = false from hc) Bool.noConfusion) | refine tr_cond rfl (fun hc => absurd (show false = true from hc) Bool.noConfusion) (fun hc => ?_))
  repeat' first | refine zzs ?_ | refine zzb ?_ | refine zzk ?_
  refine tr_region (zzx hnt rfl ?_ (call rfl rfl rfl rfl rfl rfl rfl hnt (hbi) (zzx hnt rfl ?_ (Lex.nil _)))) ?_
  · exact zza
  · exact zza
  repeat' (first | refine tr_seq ?_ | refine tr_block ?_ | refine tr_skip ?_ | refine tr_unroll 30 ?_ | refine rounds_go ?_ | refine tr_exit ?_ | refine reg (T := tab) tOk hnt rfl (by exact zzt) ?_ | refine regD (T := tab) tOk mixedR hnt rfl (by first | decide +kernel | kernel_rfl) (by exact zzt) ?_ | refine tr_cond rfl (fun hc => ?_) (fun hc => absurd (show true = false from hc) Bool.noConfusion) | refine tr_cond rfl (fun hc => absurd (show false = true from hc) Bool.noConfusion) (fun hc => ?_))
  have h1 := tokens_e
  have h2 := insideF (l := 4) (l2 := 5) rfl pa iha lena
  have l2 := shF_len lena 5
  have h9 := cat_fn [shF a 5, [wdT [73,83], wdT [78,85,76,76]]] (Nat.le_of_ble_eq_true rfl) (by simp; omega)
  rw [show ([shF a 5, [wdT [73,83], wdT [78,85,76,76]]] : List (List Tok)).flatten = shF a 5 ++ [wdT [73,83], wdT [78,85,76,76]] from by simp] at h9
  repeat' first | refine zzs ?_ | refine zzb ?_ | refine zzk ?_
  refine tr_region (zzx hnt rfl ?_ (callV rfl rfl rfl rfl rfl rfl rfl hnt rfl (h2) (zzx hnt rfl ?_ (callV rfl rfl rfl rfl rfl rfl rfl hnt rfl (h1) (zzx hnt rfl ?_ (callU rfl rfl rfl rfl rfl rfl rfl hnt (h9) (zzx hnt rfl ?_ (Lex.nil _)))))))) ?_
  · exact zza
  · exact zza
  · exact zza
  · exact zza
  exact tr_ret ⟨.inr rfl, _, _, rfl, zzp, rfl⟩
set_option maxRecDepth 10000 in
set_option maxHeartbeats 2000000 in
theorem shown_len (v : Val) (n : Byt) (a : Ex) (pa : 1 ≤ a.op ∧ a.op ≤ 20) (iha : Shown a) (lena : (shX a).length ≤ 998) : FnG Tryd.prog 35 ([(6, spE), (2, mkE)]) [.agg (.es (eEx (.mk 18 v n [a])))] (.one (.e (eTks ([wdT [76,69,78,71,84,72], sgT [40]] ++ shX a ++ [sgT [41]])))) := by
  refine fn_introG (T := tab) tOk Tryd.func35 rfl (by kernel_rfl) (by simp [Tryd.ntmps35]) ?_
  intro X hX
  have hnt : X.nt = 105 := hX
  clear hX
  have fa : 0 + 7 ≤ (Cs.es (eEx a)).len := by have := ex7 a; show 0 + 7 ≤ (eEx a).length; omega
  have ga : (eEx a).length = 7 := ex7 a
  have q0 : (0 : Int) < ((1 : Nat) : Int) := by decide
  rw [eEx_mk]
  have hbi : FnD Tryd.prog 72 [.one (.e (eI 18))] (.one (.e (eI 8))) := binds_fn 18 (by decide) (by decide)
  repeat' (first | refine tr_seq ?_ | refine tr_block ?_ | refine tr_skip ?_ | refine tr_unroll 30 ?_ | refine rounds_go ?_ | refine tr_exit ?_ | refine reg (T := tab) tOk hnt rfl (by exact zzt) ?_ | refine regD (T := tab) tOk mixedR hnt rfl (by first | decide +kernel | kernel_rfl) (by exact zzt) ?_ | refine tr_cond rfl (fun hc => ?_) (fun hc => absurd (show true = false from hc) Bool.noConfusion) | refine tr_cond rfl (fun hc => absurd (show false = true from hc) Bool.noConfusion) (fun hc => ?_))
  repeat' first | refine zzs ?_ | refine zzb ?_ | refine zzk ?_
  refine tr_region (zzx hnt rfl ?_ (call rfl rfl rfl rfl rfl rfl rfl hnt (hbi) (zzx hnt rfl ?_ (Lex.nil _)))) ?_
  · exact zza
  · exact zza
  repeat' (first | refine tr_seq ?_ | refine tr_block ?_ | refine tr_skip ?_ | refine tr_unroll 30 ?_ | refine rounds_go ?_ | refine tr_exit ?_ | refine reg (T := tab) tOk hnt rfl (by exact zzt) ?_ | refine regD (T := tab) tOk mixedR hnt rfl (by first | decide +kernel | kernel_rfl) (by exact zzt) ?_ | refine tr_cond rfl (fun hc => ?_) (fun hc => absurd (show true = false from hc) Bool.noConfusion) | refine tr_cond rfl (fun hc => absurd (show false = true from hc) Bool.noConfusion) (fun hc => ?_))
  have h1 := tokens_f
  have h2 := shownF iha
  have h3 := tokens_d
  have h9 := cat_fn [[wdT [76,69,78,71,84,72], sgT [40]], shX a, [sgT [41]]] (Nat.le_of_ble_eq_true rfl) (by simp; omega)
  rw [show ([[wdT [76,69,78,71,84,72], sgT [40]], shX a, [sgT [41]]] : List (List Tok)).flatten = [wdT [76,69,78,71,84,72], sgT [40]] ++ shX a ++ [sgT [41]] from by simp] at h9
  repeat' first | refine zzs ?_ | refine zzb ?_ | refine zzk ?_
  refine tr_draw (T := tab) tOk hnt mixedR (lexD (T := tab) rfl ?_ (callVD rfl rfl rfl rfl rfl rfl rfl rfl rfl (h1) (lexD (T := tab) rfl ?_ (callVD rfl rfl rfl rfl rfl rfl rfl rfl rfl (h2) (lexD (T := tab) rfl ?_ (callVD rfl rfl rfl rfl rfl rfl rfl rfl rfl (h3) (lexD (T := tab) rfl ?_ (callDU rfl rfl rfl rfl rfl rfl rfl rfl rfl (h9) (lexD (T := tab) rfl ?_ (.nil _)))))))))) (by first | decide +kernel | kernel_rfl) ?_
  · exact zza
  · exact zza
  · exact zza
  · exact zza
  · exact zza
  exact tr_ret ⟨.inr rfl, _, _, rfl, zzp, rfl⟩
set_option maxRecDepth 10000 in
set_option maxHeartbeats 2000000 in
theorem shown_coa (v : Val) (n : Byt) (a : Ex) (pa : 1 ≤ a.op ∧ a.op ≤ 20) (iha : Shown a) (lena : (shX a).length ≤ 998) (b : Ex) (pb : 1 ≤ b.op ∧ b.op ≤ 20) (ihb : Shown b) (lenb : (shX b).length ≤ 998) : FnG Tryd.prog 35 ([(6, spE), (2, mkE)]) [.agg (.es (eEx (.mk 20 v n [a, b])))] (.one (.e (eTks ([wdT [67,79,65,76,69,83,67,69], sgT [40]] ++ shX a ++ [sgT [44]] ++ shX b ++ [sgT [41]])))) := by
  refine fn_introG (T := tab) tOk Tryd.func35 rfl (by kernel_rfl) (by simp [Tryd.ntmps35]) ?_
  intro X hX
  have hnt : X.nt = 105 := hX
  clear hX
  have fa : 0 + 7 ≤ (Cs.es (eEx a)).len := by have := ex7 a; show 0 + 7 ≤ (eEx a).length; omega
  have ga : (eEx a).length = 7 := ex7 a
  have fb : 0 + 7 ≤ (Cs.es (eEx b)).len := by have := ex7 b; show 0 + 7 ≤ (eEx b).length; omega
  have gb : (eEx b).length = 7 := ex7 b
  have q0 : (0 : Int) < ((2 : Nat) : Int) := by decide
  have q1 : (1 : Int) < ((2 : Nat) : Int) := by decide
  rw [eEx_mk]
  have hbi : FnD Tryd.prog 72 [.one (.e (eI 20))] (.one (.e (eI 8))) := binds_fn 20 (by decide) (by decide)
  repeat' (first | refine tr_seq ?_ | refine tr_block ?_ | refine tr_skip ?_ | refine tr_unroll 30 ?_ | refine rounds_go ?_ | refine tr_exit ?_ | refine reg (T := tab) tOk hnt rfl (by exact zzt) ?_ | refine regD (T := tab) tOk mixedR hnt rfl (by first | decide +kernel | kernel_rfl) (by exact zzt) ?_ | refine tr_cond rfl (fun hc => ?_) (fun hc => absurd (show true = false from hc) Bool.noConfusion) | refine tr_cond rfl (fun hc => absurd (show false = true from hc) Bool.noConfusion) (fun hc => ?_))
  repeat' first | refine zzs ?_ | refine zzb ?_ | refine zzk ?_
  refine tr_region (zzx hnt rfl ?_ (call rfl rfl rfl rfl rfl rfl rfl hnt (hbi) (zzx hnt rfl ?_ (Lex.nil _)))) ?_
  · exact zza
  · exact zza
  repeat' (first | refine tr_seq ?_ | refine tr_block ?_ | refine tr_skip ?_ | refine tr_unroll 30 ?_ | refine rounds_go ?_ | refine tr_exit ?_ | refine reg (T := tab) tOk hnt rfl (by exact zzt) ?_ | refine regD (T := tab) tOk mixedR hnt rfl (by first | decide +kernel | kernel_rfl) (by exact zzt) ?_ | refine tr_cond rfl (fun hc => ?_) (fun hc => absurd (show true = false from hc) Bool.noConfusion) | refine tr_cond rfl (fun hc => absurd (show false = true from hc) Bool.noConfusion) (fun hc => ?_))
  have h1 := tokens_g
  have h2 := shownF iha
  have h3 := tokens_h
  have h4 := shownF ihb
  have h5 := tokens_d
  have h9 := cat_fn [[wdT [67,79,65,76,69,83,67,69], sgT [40]], shX a, [sgT [44]], shX b, [sgT [41]]] (Nat.le_of_ble_eq_true rfl) (by simp; omega)
  rw [show ([[wdT [67,79,65,76,69,83,67,69], sgT [40]], shX a, [sgT [44]], shX b, [sgT [41]]] : List (List Tok)).flatten = [wdT [67,79,65,76,69,83,67,69], sgT [40]] ++ shX a ++ [sgT [44]] ++ shX b ++ [sgT [41]] from by simp] at h9
  repeat' first | refine zzs ?_ | refine zzb ?_ | refine zzk ?_
  refine tr_draw (T := tab) tOk hnt mixedR (lexD (T := tab) rfl ?_ (callVD rfl rfl rfl rfl rfl rfl rfl rfl rfl (h1) (lexD (T := tab) rfl ?_ (callVD rfl rfl rfl rfl rfl rfl rfl rfl rfl (h2) (lexD (T := tab) rfl ?_ (callVD rfl rfl rfl rfl rfl rfl rfl rfl rfl (h3) (lexD (T := tab) rfl ?_ (callVD rfl rfl rfl rfl rfl rfl rfl rfl rfl (h4) (lexD (T := tab) rfl ?_ (callVD rfl rfl rfl rfl rfl rfl rfl rfl rfl (h5) (lexD (T := tab) rfl ?_ (callDU rfl rfl rfl rfl rfl rfl rfl rfl rfl (h9) (lexD (T := tab) rfl ?_ (.nil _)))))))))))))) (by first | decide +kernel | kernel_rfl) ?_
  · exact zza
  · exact zza
  · exact zza
  · exact zza
  · exact zza
  · exact zza
  · exact zza
  exact tr_ret ⟨.inr rfl, _, _, rfl, zzp, rfl⟩
end Go.Proofs.YthnadkafegmacaaDoor
