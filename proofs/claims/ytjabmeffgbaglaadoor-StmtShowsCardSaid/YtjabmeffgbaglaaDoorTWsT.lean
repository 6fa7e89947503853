/- Commands as tokens: the document's small functions. No condition. -/
import Derived.Test.YtjabmeffgbaglaaDoorTWsS
import Derived.Test.YtjabmeffgbaglaaDoorTLXs
namespace Go.Proofs.YtjabmeffgbaglaaDoor
open Go Go.RowKit Go.Proofs.YtjabmeffgbaglaaDoor.Ab
set_option linter.unusedSimpArgs false
set_option linter.unusedVariables false
set_option maxRecDepth 10000 in
set_option maxHeartbeats 2000000 in
theorem nameTok_fn (s : Byt) : FnD Tryd.prog 39 [.one (.e (eT s))] (.one (.e (eTks [naT s]))) := by
 refine fn_intro (T := tab) tOk Tryd.func39 rfl (by kernel_rfl) (by simp [Tryd.ntmps39]) ?_
 intro X hX
 have hnt : X.nt = 6 := hX
 clear hX
 repeat' first | refine zzs ?_ | refine zzr hnt rfl ?_ ?_ | refine zzd hnt rfl ?_ ?_ | refine zzb ?_ | refine zzk ?_
 ·exact zzt
 ·exact zzt
 exact tr_ret ⟨.inr rfl, _, _, rfl, zzp, rfl⟩
set_option maxRecDepth 10000 in
set_option maxHeartbeats 2000000 in
theorem numTok_fn (n : Int) : FnD Tryd.prog 48 [.one (.e (eI n))] (.one (.e (eTks [nuT n]))) := by
 refine fn_intro (T := tab) tOk Tryd.func48 rfl (by kernel_rfl) (by simp [Tryd.ntmps48]) ?_
 intro X hX
 have hnt : X.nt = 6 := hX
 clear hX
 repeat' first | refine zzs ?_ | refine zzr hnt rfl ?_ ?_ | refine zzd hnt rfl ?_ ?_ | refine zzb ?_ | refine zzk ?_
 ·exact zzt
 ·exact zzt
 exact tr_ret ⟨.inr rfl, _, _, rfl, zzp, rfl⟩
set_option maxRecDepth 10000 in
set_option maxHeartbeats 2000000 in
theorem optional_fn (b : Bool) (s : Byt) (ts : List Tok) (h : Tks s ts) : FnG Tryd.prog 41 ([(3, spE)]) [.v (.bool b), .one (.e (eT s))] (.one (.e (eTks (if b then ts else [])))) := by
 refine fn_introG (T := tab) tOk Tryd.func41 rfl (by kernel_rfl) (by simp [Tryd.ntmps41]) ?_
 intro X hX
 have hnt : X.nt = 8 := hX
 clear hX
 repeat' first | refine zzs ?_ | refine zzr hnt rfl ?_ ?_ | refine zzd hnt rfl ?_ ?_ | refine zzb ?_ | refine zzk ?_
 ·exact zzt
 ·exact zzt
 cases b with
 | true =>
  repeat' first | refine zzs ?_ | refine zzb ?_ | refine zzk ?_
  refine tr_cond rfl (fun hc => ?_) (fun hc => ?_)
  rotate_left
  ·exact absurd (show true = false from hc) Bool.noConfusion
  repeat' first | refine zzs ?_ | refine zzb ?_ | refine zzk ?_
  refine tr_region (zzx hnt rfl ?_ (callV rfl rfl rfl rfl rfl rfl rfl hnt rfl (h) (zzx hnt rfl ?_ (Lex.nil _)))) ?_
  ·exact zza
  ·exact zza
  exact tr_ret ⟨.inr rfl, _, _, rfl, zzp, rfl⟩
 | false =>
  repeat' first | refine zzs ?_ | refine zzb ?_ | refine zzk ?_
  refine tr_cond rfl (fun hc => ?_) (fun hc => ?_)
  ·exact absurd (show false = true from hc) Bool.noConfusion
  repeat' first | refine zzs ?_ | refine zzr hnt rfl ?_ ?_ | refine zzd hnt rfl ?_ ?_ | refine zzb ?_ | refine zzk ?_
  ·exact zzt
  exact tr_ret ⟨.inr rfl, _, _, rfl, zzp, rfl⟩
set_option maxRecDepth 10000 in
set_option maxHeartbeats 2000000 in
theorem tableToks_fn (c : Cmd) : FnG Tryd.prog 67 ([(3, spE)]) [.agg (.es (eCmd c))] (.one (.e (eTks (tbT c)))) := by
 refine fn_introG (T := tab) tOk Tryd.func67 rfl (by kernel_rfl) (by simp [Tryd.ntmps67]) ?_
 intro X hX
 have hnt : X.nt = 12 := hX
 clear hX
 have f29 : 0 + 29 ≤ (Cs.es (eCmd c)).len := Nat.le_refl 29
 have h1 := numTok_fn c.ow
 have h2 := tokens_dot
 have h3 := nameTok_fn c.tb
 have h9 := cat_fn [[nuT c.ow], [sgT [46]], [naT c.tb]] (Nat.le_of_ble_eq_true rfl) (by simp)
 repeat' first | refine zzs ?_ | refine zzb ?_ | refine zzk ?_
 first | refine zzr hnt rfl ?_ ?_ | refine zzd hnt rfl ?_ ?_
 ·exact zza
 repeat' first | refine zzs ?_ | refine zzb ?_ | refine zzk ?_
 refine tr_draw (T := tab) tOk hnt mixedR (lexD (T := tab) rfl ?_ (callD rfl rfl rfl rfl rfl rfl rfl rfl (h1) (lexD (T := tab) rfl ?_ (callVD rfl rfl rfl rfl rfl rfl rfl rfl rfl (h2) (lexD (T := tab) rfl ?_ (callD rfl rfl rfl rfl rfl rfl rfl rfl (h3) (lexD (T := tab) rfl ?_ (callDU rfl rfl rfl rfl rfl rfl rfl rfl rfl (h9) (lexD (T := tab) rfl ?_ (.nil _)))))))))) (by first | decide +kernel | kernel_rfl) ?_
 ·exact zza
 ·exact zza
 ·exact zza
 ·exact zza
 ·exact zza
 exact tr_ret ⟨.inr rfl, _, _, rfl, zzp, rfl⟩
set_option maxRecDepth 10000 in
set_option maxHeartbeats 2000000 in
theorem drawerToks_fn (c : Cmd) : FnG Tryd.prog 44 ([(3, spE)]) [.agg (.es (eCmd c))] (.one (.e (eTks (ofT c true)))) := by
 refine fn_introG (T := tab) tOk Tryd.func44 rfl (by kernel_rfl) (by simp [Tryd.ntmps44]) ?_
 intro X hX
 have hnt : X.nt = 11 := hX
 clear hX
 have f29 : 0 + 29 ≤ (Cs.es (eCmd c)).len := Nat.le_refl 29
 have h1 := tableToks_fn c
 have h2 := tokens_DRAWER
 have h3 := numTok_fn c.dr
 have h9 := cat_fn [tbT c, [wdT [68, 82, 65, 87, 69, 82]], [nuT c.dr]] (Nat.le_of_ble_eq_true rfl) (by unfold tbT; simp)
 repeat' first | refine zzs ?_ | refine zzb ?_ | refine zzk ?_
 first | refine zzr hnt rfl ?_ ?_ | refine zzd hnt rfl ?_ ?_
 ·exact zza
 repeat' first | refine zzs ?_ | refine zzb ?_ | refine zzk ?_
 refine tr_draw (T := tab) tOk hnt mixedR (lexD (T := tab) rfl ?_ (callVD rfl rfl rfl rfl rfl rfl rfl rfl rfl (h1) (lexD (T := tab) rfl ?_ (callVD rfl rfl rfl rfl rfl rfl rfl rfl rfl (h2) (lexD (T := tab) rfl ?_ (callD rfl rfl rfl rfl rfl rfl rfl rfl (h3) (lexD (T := tab) rfl ?_ (callDU rfl rfl rfl rfl rfl rfl rfl rfl rfl (h9) (lexD (T := tab) rfl ?_ (.nil _)))))))))) (by first | decide +kernel | kernel_rfl) ?_
 ·exact zza
 ·exact zza
 ·exact zza
 ·exact zza
 ·exact zza
 exact tr_ret ⟨.inr rfl, _, _, rfl, zzp, rfl⟩
set_option maxRecDepth 10000 in
set_option maxHeartbeats 2000000 in
theorem whereToks_fn (x : Ex) (hx : exOk x) (h0 : cdP x) : FnG Tryd.prog 46 ([(3, spE), (6, mkE)]) [.agg (.es (eEx x))] (.one (.e (eTks (whT x)))) := by
 refine fn_introG (T := tab) tOk Tryd.func46 rfl (by kernel_rfl) (by simp [Tryd.ntmps46]) ?_
 intro X hX
 have hnt : X.nt = 10 := hX
 clear hX
 have h7 : 0 + 7 ≤ (Cs.es (eEx x)).len := by have := ex7 x; show 0 + 7 ≤ (eEx x).length; omega
 have e7 : (Cs.es (eEx x)).len = 7 := ex7 x
 have h1 := noExpr_fn x
 rw [← exAll x] at h1
 unfold whT
 repeat' first | refine zzs ?_ | refine zzb ?_ | refine zzk ?_
 first | refine zzr hnt rfl ?_ ?_ | refine zzd hnt rfl ?_ ?_
 ·exact zza
 repeat' first | refine zzs ?_ | refine zzb ?_ | refine zzk ?_
 refine tr_region (zzx hnt rfl ?_ (call rfl rfl rfl rfl rfl rfl rfl hnt (h1) (zzx hnt rfl ?_ (Lex.nil _)))) ?_
 ·exact zza
 ·exact zza
 repeat' first | refine zzs ?_ | refine zzb ?_ | refine zzk ?_
 refine tr_cond rfl (fun hc => ?_) (fun hc => ?_)
 ·have hn : noC x := of_decide_eq_true hc
  rw [if_pos hn]
  repeat' first | refine zzs ?_ | refine zzr hnt rfl ?_ ?_ | refine zzd hnt rfl ?_ ?_ | refine zzb ?_ | refine zzk ?_
  ·exact zzt
  exact tr_ret ⟨.inr rfl, _, _, rfl, zzp, rfl⟩
 have hn : ¬ noC x := of_decide_eq_false hc
 rw [if_neg hn]
 have hx0 : exF x = 0 := h0.resolve_left hn
 have hs : Shown x := shown_all 40 x (exF_in hx0).1 (exF_in hx0).1 (exF_in hx0).2
 have hs := shownF hs
 have h2 := tokens_WHERE
 have hlx := len200 hx0
 have h9 := cat_fn [[wdT [87, 72, 69, 82, 69]], shX x] (Nat.le_of_ble_eq_true rfl) (by simp; omega)
 rw [show ([[wdT [87, 72, 69, 82, 69]], shX x] : List (List Tok)).flatten = wdT [87, 72, 69, 82, 69] :: shX x from by simp] at h9
 repeat' first | refine zzs ?_ | refine zzb ?_ | refine zzk ?_
 refine tr_draw (T := tab) tOk hnt mixedR (lexD (T := tab) rfl ?_ (callVD rfl rfl rfl rfl rfl rfl rfl rfl rfl (h2) (lexD (T := tab) rfl ?_ (callVD rfl rfl rfl rfl rfl rfl rfl rfl rfl (hs) (lexD (T := tab) rfl ?_ (callDU rfl rfl rfl rfl rfl rfl rfl rfl rfl (h9) (lexD (T := tab) rfl ?_ (.nil _)))))))) (by first | decide +kernel | kernel_rfl) ?_
 ·exact zza
 ·exact zza
 ·exact zza
 ·exact zza
 exact tr_ret ⟨.inr rfl, _, _, rfl, zzp, rfl⟩
set_option maxRecDepth 10000 in
set_option maxHeartbeats 2000000 in
theorem listed_fn (ls : List (List Tok)) (B : Nat) (hB : ∀ x ∈ ls, x.length ≤ B) (hl : (B + 1) * ls.length ≤ 90000) : FnG Tryd.prog 42 ([(3, spE)]) [.one (.e (eTss ls))] (.one (.e (eTks (lsT ls)))) := by
 refine fn_introG (T := tab) tOk Tryd.func42 rfl (by kernel_rfl) (by simp [Tryd.ntmps42]) ?_
 intro X hX
 have hnt : X.nt = 25 := hX
 clear hX
 have hml : (ls.map fun l => [eTks l]).length = ls.length := List.length_map ..
 have hn : ls.length ≤ 90000 := Nat.le_trans (Nat.le_mul_of_pos_left _ (Nat.succ_pos B)) hl
 repeat' first | refine zzs ?_ | refine zzr hnt rfl ?_ ?_ | refine zzd hnt rfl ?_ ?_ | refine zzb ?_ | refine zzk ?_
 ·exact zzt
 ·exact zzt
 ·exact zzt
 repeat' first | refine zzs ?_ | refine zzb ?_ | refine zzk ?_
 refine tr_loop (σ := Nat) (fun i => St.of [(3, .one (.e (eTks (lsT (ls.take i))))), (6, .one (.e (eTss ls))), (7, .one (.e (eI ((ls.map fun l => [eTks l]).length : Int)))), (8, .one (.e (eI (i : Int)))), ((1000000 + 3), .one (.eptr spE))] []) (fun i => i ≤ ls.length) (fun i => ls.length - i) (0) (le_of (ad := []) ⟨zzl, zzl, zzl, zzl, zzl, trivial⟩ trivial) (Nat.zero_le _) ?_
 rintro i il
 repeat' first | refine zzs ?_ | refine zzr hnt rfl ?_ ?_ | refine zzd hnt rfl ?_ ?_ | refine zzb ?_ | refine zzk ?_
 ·exact zzt
 repeat' first | refine zzs ?_ | refine zzb ?_ | refine zzk ?_
 refine tr_cond rfl (fun hc => ?_) (fun hc => ?_)
 ·simp only [zz1, zz2, zz3, zz4, zz5, zz6, zz7, zz8] at hc
  (try simp only [hml] at hc)
  (try simp only [zz1, zz2, zz3, zz4, zz5, zz6, zz7, zz8] at hc)
  have hlt : i < ls.length := by omega
  have hg : (ls.map fun l => [eTks l]).getD i [] = [eTks (ls.getD i [])] := by
   rw [List.getD_eq_getElem?_getD, List.getElem?_map, List.getElem?_eq_getElem hlt, List.getD_eq_getElem?_getD, List.getElem?_eq_getElem hlt]
   rfl
  have htl : (ls.take i).length = i := by rw [List.length_take]; omega
  have htk : ls.take (i + 1) = ls.take i ++ [ls.getD i []] := by
   rw [List.take_add_one, List.getD_eq_getElem?_getD, List.getElem?_eq_getElem hlt]
   rfl
  have hlb := lsT_len B (ls.take i) (fun x hx => hB x (List.mem_of_mem_take hx))
  rw [htl] at hlb
  have hmul : (B + 1) * (i + 1) ≤ (B + 1) * ls.length := Nat.mul_le_mul_left _ hlt
  rw [Nat.mul_succ] at hmul
  have hxb : (ls.getD i []).length ≤ B := hB _ (by rw [List.getD_eq_getElem?_getD, List.getElem?_eq_getElem hlt]; exact List.getElem_mem hlt)
  have hnx := lsT_snoc (ls.take i) (ls.getD i [])
  rw [← htk, htl] at hnx
  repeat' first | refine zzs ?_ | refine zzb ?_ | refine zzk ?_
  first | refine zzr hnt rfl ?_ ?_ | refine zzd hnt rfl ?_ ?_
  ·rw [Int.toNat_natCast, hg, hml]
   exact zza
  rw [Int.toNat_natCast, hg]
  generalize ls.getD i [] = x at *
  generalize lsT (ls.take i) = out at *
  repeat' first | refine zzs ?_ | refine zzr hnt rfl ?_ ?_ | refine zzd hnt rfl ?_ ?_ | refine zzb ?_ | refine zzk ?_
  ·exact zzt
  repeat' first | refine zzs ?_ | refine zzb ?_ | refine zzk ?_
  refine tr_cond rfl (fun hc => ?_) (fun hc => ?_)
  ·simp only [zz1, zz2, zz3, zz4, zz5, zz6, zz7, zz8] at hc
   have hcm : cmm i = [sgT [44]] := by
    unfold cmm
    rw [if_pos (by omega)]
   rw [hcm] at hnx
   have h2 := tokens_h
   have h8 := cat_fn [out, [sgT [44]]] (Nat.le_of_ble_eq_true rfl) (by simp; omega)
   rw [show ([out, [sgT [44]]] : List (List Tok)).flatten = out ++ [sgT [44]] from by simp] at h8
   repeat' first | refine zzs ?_ | refine zzb ?_ | refine zzk ?_
   refine tr_region (zzx hnt rfl ?_ (callV rfl rfl rfl rfl rfl rfl rfl hnt rfl (h2) (zzx hnt rfl ?_ (callU rfl rfl rfl rfl rfl rfl rfl hnt (h8) (zzx hnt rfl ?_ (Lex.nil _)))))) ?_
   ·exact zza
   ·exact zza
   ·exact zza
   have h9 := cat_fn [out ++ [sgT [44]], x] (Nat.le_of_ble_eq_true rfl) (by simp; omega)
   rw [show ([out ++ [sgT [44]], x] : List (List Tok)).flatten = out ++ [sgT [44]] ++ x from by simp, ← hnx] at h9
   repeat' first | refine zzs ?_ | refine zzb ?_ | refine zzk ?_
   refine tr_region (zzx hnt rfl ?_ (callU rfl rfl rfl rfl rfl rfl rfl hnt (h9) (zzx hnt rfl ?_ (Lex.nil _)))) ?_
   ·exact zza
   ·exact zza
   repeat' first | refine zzs ?_ | refine zzr hnt rfl ?_ ?_ | refine zzd hnt rfl ?_ ?_ | refine zzb ?_ | refine zzk ?_
   ·exact zzt
   refine ⟨i + 1, hlt, by omega, le_of (ad := []) ⟨zzl, zzl, zzl, zzl, zzl, trivial⟩ trivial⟩
  simp only [zz1, zz2, zz3, zz4, zz5, zz6, zz7, zz8] at hc
  have hcm : cmm i = [] := by
   unfold cmm
   rw [if_neg (by omega)]
  rw [hcm, List.append_nil] at hnx
  have h9 := cat_fn [out, x] (Nat.le_of_ble_eq_true rfl) (by simp; omega)
  rw [show ([out, x] : List (List Tok)).flatten = out ++ x from by simp, ← hnx] at h9
  repeat' first | refine zzs ?_ | refine zzb ?_ | refine zzk ?_
  refine tr_region (zzx hnt rfl ?_ (callU rfl rfl rfl rfl rfl rfl rfl hnt (h9) (zzx hnt rfl ?_ (Lex.nil _)))) ?_
  ·exact zza
  ·exact zza
  repeat' first | refine zzs ?_ | refine zzr hnt rfl ?_ ?_ | refine zzd hnt rfl ?_ ?_ | refine zzb ?_ | refine zzk ?_
  ·exact zzt
  refine ⟨i + 1, hlt, by omega, le_of (ad := []) ⟨zzl, zzl, zzl, zzl, zzl, trivial⟩ trivial⟩
 simp only [zz1, zz2, zz3, zz4, zz5, zz6, zz7, zz8] at hc
 (try simp only [hml] at hc)
 (try simp only [zz1, zz2, zz3, zz4, zz5, zz6, zz7, zz8] at hc)
 have hi : i = ls.length := by omega
 rw [hi, List.take_length]
 refine tr_exit ?_
 repeat' first | refine zzs ?_ | refine zzr hnt rfl ?_ ?_ | refine zzd hnt rfl ?_ ?_ | refine zzb ?_ | refine zzk ?_
 ·exact zzt
 exact tr_ret ⟨.inr rfl, _, _, rfl, zzp, rfl⟩
end Go.Proofs.YtjabmeffgbaglaaDoor
namespace Go.Proofs.YtjabmeffgbaglaaDoor
open Go Go.RowKit Go.Proofs.YtjabmeffgbaglaaDoor.Ab
set_option linter.unusedSimpArgs false
set_option linter.unusedVariables false
def awE : List E := [[], [67, 79, 85, 78, 84], [83, 85, 77], [77, 73, 78], [77, 65, 88]].map eT
theorem aw_drop {a : Int} (h1 : 2 ≤ a) (h2 : a ≤ 4) : ∃ r, List.drop (a.toNat * 1) awE = eT (awT a) :: r := by
 rcases (by omega : a = 2 ∨ a = 3 ∨ a = 4) with rfl | rfl | rfl <;> exact ⟨_, rfl⟩
theorem tks_aw {a : Int} (h1 : 2 ≤ a) (h2 : a ≤ 4) : Tks (awT a ++ [32, 40]) [wdT (awT a), sgT [40]] := by
 rcases (by omega : a = 2 ∨ a = 3 ∨ a = 4) with rfl | rfl | rfl
 ·exact tokens_SUM_l
 ·exact tokens_MIN_l
 ·exact tokens_MAX_l
def eLl (ls : List (List Tok)) : List (List E) := ls.map fun l => [eTks l]
theorem eLl_snoc (l : List (List Tok)) (x : List Tok) : eLl l ++ [[eTks x]] = eLl (l ++ [x]) := by
 unfold eLl
 rw [List.map_append]
 rfl
set_option maxRecDepth 10000 in
set_option maxHeartbeats 2000000 in
theorem selectToks_fn (c : Cmd) (hq : qOk c.q) (ha : ∀ t ∈ c.q.is, 0 ≤ t.a ∧ t.a ≤ 4) : FnG Tryd.prog 47 ([(3, spE), (6, mkE), (2, awE)]) [.agg (.es (eCmd c))] (.one (.e (eTks (quT c)))) := by
 refine fn_introG (T := tab) tOk Tryd.func47 rfl (by kernel_rfl) (by simp [Tryd.ntmps47]) ?_
 intro X hX
 have hnt : X.nt = 111 := hX
 clear hX
 have f29 : 0 + 29 ≤ (Cs.es (eCmd c)).len := Nat.le_refl 29
 have lis : (c.q.is.map eItm).length = c.q.is.length := List.length_map ..
 have lss : (c.q.ss.map eSrt).length = c.q.ss.length := List.length_map ..
 have li20 := hq.li
 have ls20 := hq.ls
 repeat' first | refine zzs ?_ | refine zzb ?_ | refine zzk ?_
 first | refine zzr hnt rfl ?_ ?_ | refine zzd hnt rfl ?_ ?_
 ·exact zza
 repeat' first | refine zzs ?_ | refine zzb ?_ | refine zzk ?_
 first | refine zzr hnt rfl ?_ ?_ | refine zzd hnt rfl ?_ ?_
 ·exact zza
 repeat' first | refine zzs ?_ | refine zzb ?_ | refine zzk ?_
 first | refine zzr hnt rfl ?_ ?_ | refine zzd hnt rfl ?_ ?_
 ·exact zza
 repeat' first | refine zzs ?_ | refine zzb ?_ | refine zzk ?_
 first | refine zzr hnt rfl ?_ ?_ | refine zzd hnt rfl ?_ ?_
 ·exact zza
 repeat' first | refine zzs ?_ | refine zzb ?_ | refine zzk ?_
 refine tr_loop (σ := Nat) (fun i => St.of [(1, .one (.ptr 1 0 0)), (3, .one (.ptr 3 0 0)), (4, .one (.own 5000 0)), (5, .one .nil), (14, .one (.e (.sl (c.q.is.map eItm)))), (15, .one (.e (eI ((c.q.is.map eItm).length : Int)))), (16, .one (.e (eI (i : Int)))), ((1000000 + 3), .one (.eptr spE)), ((1000000 + 6), .one (.eptr mkE)), ((1000000 + 2), .one (.eptr awE))] [(1, ⟨0, .box (.es (eCmd c)), 0⟩), (3, ⟨0, .box (.es (eQry c.q)), 0⟩), (5000, ⟨0, .row 1 (eLl ((c.q.is.take i).map itT)), 0⟩)]) (fun i => i ≤ c.q.is.length) (fun i => c.q.is.length - i) (0) (le_of (ad := [5000]) ⟨zzl, zzl, zzl, zzl, zzl, zzl, zzl, zzl, zzl, zzl, trivial⟩ (memOk_box rfl rfl rfl (memOk_box rfl rfl rfl (memOk_new rfl (by decide) trivial)))) (Nat.zero_le _) ?_
 ·rintro i il
  repeat' first | refine zzs ?_ | refine zzr hnt rfl ?_ ?_ | refine zzd hnt rfl ?_ ?_ | refine zzb ?_ | refine zzk ?_
  ·exact zzt
  repeat' first | refine zzs ?_ | refine zzb ?_ | refine zzk ?_
  refine tr_cond rfl (fun hc => ?_) (fun hc => ?_)
  ·simp only [zz1, zz2, zz3, zz4, zz5, zz6, zz7, zz8] at hc
   (try simp only [lis] at hc)
   (try simp only [zz1, zz2, zz3, zz4, zz5, zz6, zz7, zz8] at hc)
   have hlt : i < c.q.is.length := by omega
   have hg : (c.q.is.map eItm).getD i [] = eItm (c.q.is.getD i itm0) := by
    rw [List.getD_eq_getElem?_getD, List.getElem?_map, List.getElem?_eq_getElem hlt, List.getD_eq_getElem?_getD, List.getElem?_eq_getElem hlt]
    rfl
   have hmem : c.q.is.getD i itm0 ∈ c.q.is := by
    rw [List.getD_eq_getElem?_getD, List.getElem?_eq_getElem hlt]
    exact List.getElem_mem hlt
   have htk : (c.q.is.take (i + 1)).map itT = (c.q.is.take i).map itT ++ [itT (c.q.is.getD i itm0)] := by
    rw [List.take_add_one, List.getD_eq_getElem?_getD, List.getElem?_eq_getElem hlt, List.map_append]
    rfl
   have hx := hq.i _ hmem
   have ha := ha _ hmem
   have hpl : (eLl ((c.q.is.take i).map itT)).length = i := by
    unfold eLl
    rw [List.length_map, List.length_map, List.length_take]
    omega
   have hq1 : (eLl ((c.q.is.take i).map itT)).length + 1 ≤ maxLen := by rw [hpl]; simp only [maxLen]; omega
   have hq2 : ((eLl ((c.q.is.take i).map itT)).length + 1) * 24 ≤ 140737488355328 := by rw [hpl]; omega
   repeat' first | refine zzs ?_ | refine zzb ?_ | refine zzk ?_
   first | refine zzr hnt rfl ?_ ?_ | refine zzd hnt rfl ?_ ?_
   ·rw [Int.toNat_natCast, hg, lis]
    exact zza
   rw [Int.toNat_natCast, hg]
   generalize c.q.is.getD i itm0 = t at *
   have hX := itX t
   repeat' first | refine zzs ?_ | refine zzr hnt rfl ?_ ?_ | refine zzd hnt rfl ?_ ?_ | refine zzb ?_ | refine zzk ?_
   ·exact zzt
   ·exact zzt
   repeat' first | refine zzs ?_ | refine zzb ?_ | refine zzk ?_
   refine tr_cond rfl (fun hc => ?_) (fun hc => ?_)
   ·have h0 : t.a = 0 := of_decide_eq_true hc
    have hit : itT t = shX t.x := by
     unfold itT
     rw [if_pos h0]
    rw [hit] at htk
    have hx0 := hx.2 (by omega)
    have hs : Shown t.x := shown_all 40 t.x (exF_in hx0).1 (exF_in hx0).1 (exF_in hx0).2
    unfold Shown at hs
    rw [← hX] at hs
    repeat' first | refine zzs ?_ | refine zzb ?_ | refine zzk ?_
    refine tr_region (zzx hnt rfl ?_ (callV rfl rfl rfl rfl rfl rfl rfl hnt rfl (hs) (zzx hnt rfl ?_ (Lex.nil _)))) ?_
    ·exact zza
    ·exact zza
    repeat' first | refine zzs ?_ | refine zzr hnt rfl ?_ ?_ | refine zzd hnt rfl ?_ ?_ | refine zzb ?_ | refine zzk ?_
    ·exact zzt
    refine ⟨i + 1, hlt, by omega, le_of (ad := []) ⟨zzl, zzl, zzl, zzl, zzl, zzl, zzl, zzl, zzl, zzl, trivial⟩ (memOk_box rfl rfl rfl (memOk_box rfl rfl rfl (memOk_row rfl rfl (by rw [htk]; exact eLl_snoc _ _) trivial)))⟩
   have n0 : ¬ t.a = 0 := of_decide_eq_false hc
   clear hc
   repeat' first | refine zzs ?_ | refine zzr hnt rfl ?_ ?_ | refine zzd hnt rfl ?_ ?_ | refine zzb ?_ | refine zzk ?_
   ·exact zzt
   repeat' first | refine zzs ?_ | refine zzb ?_ | refine zzk ?_
   refine tr_cond rfl (fun hc => ?_) (fun hc => ?_)
   ·have h1 : t.a = 1 := of_decide_eq_true hc
    have hit : itT t = [wdT [67, 79, 85, 78, 84], sgT [40], sgT [42], sgT [41]] := by
     unfold itT
     rw [if_neg n0, if_pos h1, h1]
     rfl
    rw [hit] at htk
    have hs := tokens_COUNT_l_x_r
    repeat' first | refine zzs ?_ | refine zzb ?_ | refine zzk ?_
    refine tr_region (zzx hnt rfl ?_ (callV rfl rfl rfl rfl rfl rfl rfl hnt rfl (hs) (zzx hnt rfl ?_ (Lex.nil _)))) ?_
    ·exact zza
    ·exact zza
    repeat' first | refine zzs ?_ | refine zzr hnt rfl ?_ ?_ | refine zzd hnt rfl ?_ ?_ | refine zzb ?_ | refine zzk ?_
    ·exact zzt
    refine ⟨i + 1, hlt, by omega, le_of (ad := []) ⟨zzl, zzl, zzl, zzl, zzl, zzl, zzl, zzl, zzl, zzl, trivial⟩ (memOk_box rfl rfl rfl (memOk_box rfl rfl rfl (memOk_row rfl rfl (by rw [htk]; exact eLl_snoc _ _) trivial)))⟩
   have n1 : ¬ t.a = 1 := of_decide_eq_false hc
   clear hc
   have hit : itT t = [wdT (awT t.a), sgT [40]] ++ shX t.x ++ [sgT [41]] := by
    unfold itT
    rw [if_neg n0, if_neg n1]
   rw [hit] at htk
   have hx0 := hx.2 n1
   have hs : Shown t.x := shown_all 40 t.x (exF_in hx0).1 (exF_in hx0).1 (exF_in hx0).2
   unfold Shown at hs
   rw [← hX] at hs
   have hlx := len200 hx0
   have h2 := tks_aw (a := t.a) (by omega) (by omega)
   unfold Tks at h2
   obtain ⟨rr, hr⟩ := aw_drop (a := t.a) (by omega) (by omega)
   have e2 : eT (awT t.a ++ [32, 40]) = .v (.string (((List.drop (t.a.toNat * 1) awE).getD 0 E.dflt).str ++ (⟨#[32, 40]⟩ : ByteArray))) := by
    rw [hr]
    unfold eT
    rw [strB_app']
    rfl
   rw [e2] at h2
   have h3 := tokens_d
   have h9 := cat_fn [[wdT (awT t.a), sgT [40]], shX t.x, [sgT [41]]] (Nat.le_of_ble_eq_true rfl) (by simp; omega)
   rw [show ([[wdT (awT t.a), sgT [40]], shX t.x, [sgT [41]]] : List (List Tok)).flatten = [wdT (awT t.a), sgT [40]] ++ shX t.x ++ [sgT [41]] from by simp] at h9
   have hr2 : List.drop (((List.take 8 (List.drop 0 (eItm t))).getD (0 + 0) E.dflt).int.toNat * 1) awE = eT (awT t.a) :: rr := hr
   have hsz : ((eT (awT t.a) :: rr).getD 0 E.dflt).str.size ≤ 5 := by
    show (strB (awT t.a)).size ≤ 5
    rw [strB_size]
    unfold awT
    split
    ·exact Nat.le_refl 5
    split
    ·exact Nat.le_of_ble_eq_true rfl
    split <;> exact Nat.le_of_ble_eq_true rfl
   have ha2 : (0 : Int) ≤ ((List.take 8 (List.drop 0 (eItm t))).getD (0 + 0) E.dflt).int := ha.1
   have ha3 : ((List.take 8 (List.drop 0 (eItm t))).getD (0 + 0) E.dflt).int < ((5 : Nat) : Int) := by
    show t.a < ((5 : Nat) : Int)
    omega
   have hty : D0.isA .str ((Cs.es (eT (awT t.a) :: rr)).at 0) := rfl
   repeat' first | refine zzs ?_ | refine zzb ?_ | refine zzk ?_
   refine tr_draw (T := tab) tOk hnt mixedR (lexD (T := tab) rfl ?_ (callVD rfl rfl rfl rfl rfl rfl rfl rfl rfl (h2) (lexD (T := tab) rfl ?_ (callVD rfl rfl rfl rfl rfl rfl rfl rfl rfl (hs) (lexD (T := tab) rfl ?_ (callVD rfl rfl rfl rfl rfl rfl rfl rfl rfl (h3) (lexD (T := tab) rfl ?_ (callDU rfl rfl rfl rfl rfl rfl rfl rfl rfl (h9) (lexD (T := tab) rfl ?_ (.nil _)))))))))) (by first | decide +kernel | kernel_rfl) ?_
   ·rw [hr2]
    simp only [maxLen, show (⟨#[32, 40]⟩ : ByteArray).size = 2 from rfl]
    exact zza
   ·exact zza
   ·exact zza
   ·exact zza
   ·exact zza
   repeat' first | refine zzs ?_ | refine zzr hnt rfl ?_ ?_ | refine zzd hnt rfl ?_ ?_ | refine zzb ?_ | refine zzk ?_
   ·exact zzt
   refine ⟨i + 1, hlt, by omega, le_of (ad := []) ⟨zzl, zzl, zzl, zzl, zzl, zzl, zzl, zzl, zzl, zzl, trivial⟩ (memOk_box rfl rfl rfl (memOk_box rfl rfl rfl (memOk_row rfl rfl (by rw [htk]; exact eLl_snoc _ _) trivial)))⟩
  simp only [zz1, zz2, zz3, zz4, zz5, zz6, zz7, zz8] at hc
  (try simp only [lis] at hc)
  (try simp only [zz1, zz2, zz3, zz4, zz5, zz6, zz7, zz8] at hc)
  have hi : i = c.q.is.length := by omega
  rw [hi, List.take_length]
  refine tr_exit ?_
  repeat' first | refine zzs ?_ | refine zzr hnt rfl ?_ ?_ | refine zzd hnt rfl ?_ ?_ | refine zzb ?_ | refine zzk ?_
  ·exact zzt
  repeat' first | refine zzs ?_ | refine zzb ?_ | refine zzk ?_
  refine tr_loop (σ := Nat) (fun j => St.of [(1, .one (.ptr 1 0 0)), (3, .one (.ptr 3 0 0)), (4, .one (.own 5000 0)), (5, .one (.own 5001 0)), (53, .one (.e (.sl (c.q.ss.map eSrt)))), (54, .one (.e (eI ((c.q.ss.map eSrt).length : Int)))), (55, .one (.e (eI (j : Int)))), ((1000000 + 3), .one (.eptr spE)), ((1000000 + 6), .one (.eptr mkE)), ((1000000 + 2), .one (.eptr awE))] [(1, ⟨0, .box (.es (eCmd c)), 0⟩), (3, ⟨0, .box (.es (eQry c.q)), 0⟩), (5000, ⟨0, .row 1 (eLl (c.q.is.map itT)), 0⟩), (5001, ⟨0, .row 1 (eLl ((c.q.ss.take j).map soT)), 0⟩)]) (fun j => j ≤ c.q.ss.length) (fun j => c.q.ss.length - j) (0) (le_of (ad := [5001]) ⟨zzl, zzl, zzl, zzl, zzl, zzl, zzl, zzl, zzl, zzl, trivial⟩ (memOk_box rfl rfl rfl (memOk_box rfl rfl rfl (memOk_row rfl rfl rfl (memOk_new rfl (by decide) trivial))))) (Nat.zero_le _) ?_
  rintro j jl
  repeat' first | refine zzs ?_ | refine zzr hnt rfl ?_ ?_ | refine zzd hnt rfl ?_ ?_ | refine zzb ?_ | refine zzk ?_
  ·exact zzt
  repeat' first | refine zzs ?_ | refine zzb ?_ | refine zzk ?_
  refine tr_cond rfl (fun hc => ?_) (fun hc => ?_)
  ·simp only [zz1, zz2, zz3, zz4, zz5, zz6, zz7, zz8] at hc
   (try simp only [lss] at hc)
   (try simp only [zz1, zz2, zz3, zz4, zz5, zz6, zz7, zz8] at hc)
   have hlt : j < c.q.ss.length := by omega
   have hg : (c.q.ss.map eSrt).getD j [] = eSrt (c.q.ss.getD j ⟨0, false⟩) := by
    rw [List.getD_eq_getElem?_getD, List.getElem?_map, List.getElem?_eq_getElem hlt, List.getD_eq_getElem?_getD, List.getElem?_eq_getElem hlt]
    rfl
   have htk : (c.q.ss.take (j + 1)).map soT = (c.q.ss.take j).map soT ++ [soT (c.q.ss.getD j ⟨0, false⟩)] := by
    rw [List.take_add_one, List.getD_eq_getElem?_getD, List.getElem?_eq_getElem hlt, List.map_append]
    rfl
   have hpl : (eLl ((c.q.ss.take j).map soT)).length = j := by
    unfold eLl
    rw [List.length_map, List.length_map, List.length_take]
    omega
   have hq1 : (eLl ((c.q.ss.take j).map soT)).length + 1 ≤ maxLen := by rw [hpl]; simp only [maxLen]; omega
   have hq2 : ((eLl ((c.q.ss.take j).map soT)).length + 1) * 24 ≤ 140737488355328 := by rw [hpl]; omega
   repeat' first | refine zzs ?_ | refine zzb ?_ | refine zzk ?_
   first | refine zzr hnt rfl ?_ ?_ | refine zzd hnt rfl ?_ ?_
   ·rw [Int.toNat_natCast, hg, lss]
    exact zza
   rw [Int.toNat_natCast, hg]
   generalize c.q.ss.getD j ⟨0, false⟩ = t at *
   have h1 := numTok_fn t.i
   have h2 := optional_fn t.d [68, 69, 83, 67] _ tokens_DESC
   have h9 := cat_fn [[nuT t.i], if t.d then [wdT [68, 69, 83, 67]] else []] (Nat.le_of_ble_eq_true rfl) (by split <;> simp)
   rw [show ([[nuT t.i], if t.d then [wdT [68, 69, 83, 67]] else []] : List (List Tok)).flatten = soT t from by unfold soT; simp] at h9
   repeat' first | refine zzs ?_ | refine zzb ?_ | refine zzk ?_
   refine tr_draw (T := tab) tOk hnt mixedR (lexD (T := tab) rfl ?_ (callD rfl rfl rfl rfl rfl rfl rfl rfl (h1) (lexD (T := tab) rfl ?_ (callVD rfl rfl rfl rfl rfl rfl rfl rfl rfl (h2) (lexD (T := tab) rfl ?_ (callDU rfl rfl rfl rfl rfl rfl rfl rfl rfl (h9) (lexD (T := tab) rfl ?_ (.nil _)))))))) (by first | decide +kernel | kernel_rfl) ?_
   ·exact zza
   ·exact zza
   ·exact zza
   ·exact zza
   repeat' first | refine zzs ?_ | refine zzr hnt rfl ?_ ?_ | refine zzd hnt rfl ?_ ?_ | refine zzb ?_ | refine zzk ?_
   ·exact zzt
   refine ⟨j + 1, hlt, by omega, le_of (ad := []) ⟨zzl, zzl, zzl, zzl, zzl, zzl, zzl, zzl, zzl, zzl, trivial⟩ (memOk_box rfl rfl rfl (memOk_box rfl rfl rfl (memOk_row rfl rfl rfl (memOk_row rfl rfl (by rw [htk]; exact eLl_snoc _ _) trivial))))⟩
  simp only [zz1, zz2, zz3, zz4, zz5, zz6, zz7, zz8] at hc
  (try simp only [lss] at hc)
  (try simp only [zz1, zz2, zz3, zz4, zz5, zz6, zz7, zz8] at hc)
  have hj : j = c.q.ss.length := by omega
  rw [hj, List.take_length]
  refine tr_exit ?_
  refine tr_le (le_frz 4 rfl rfl) ?_
  refine tr_le (le_frz 5 rfl rfl) ?_
  have hti : (c.q.is.map itT).length = c.q.is.length := List.length_map ..
  have hts : (c.q.ss.map soT).length = c.q.ss.length := List.length_map ..
  have hB : ∀ x ∈ c.q.is.map itT, x.length ≤ 205 := fun x hx => by
   obtain ⟨t, ht, rfl⟩ := List.mem_map.1 hx
   exact itT_len (hq.i t ht).2
  have hB2 : ∀ x ∈ c.q.ss.map soT, x.length ≤ 3 := fun x hx => by
   obtain ⟨t, ht, rfl⟩ := List.mem_map.1 hx
   exact soT_len t
  have hlb := lsT_len 205 _ hB
  have hlb2 := lsT_len 3 _ hB2
  rw [hti] at hlb
  rw [hts] at hlb2
  have lwh := whT_len hq.w.2
  have h1 := tokens_SELECT
  have h2 := listed_fn (c.q.is.map itT) 205 hB (by rw [hti]; omega)
  have h3 := tokens_FROM
  have h4 := tableToks_fn c
  have h5 := whereToks_fn c.q.w hq.w.1 hq.w.2
  rw [← qw7] at h5
  have h9 := cat_fn [[wdT [83, 69, 76, 69, 67, 84]], lsT (c.q.is.map itT), [wdT [70, 82, 79, 77]], tbT c, whT c.q.w] (Nat.le_of_ble_eq_true rfl) (by unfold tbT; simp; omega)
  have e9 : ([[wdT [83, 69, 76, 69, 67, 84]], lsT (c.q.is.map itT), [wdT [70, 82, 79, 77]], tbT c, whT c.q.w] : List (List Tok)).flatten = [wdT [83, 69, 76, 69, 67, 84]] ++ lsT (c.q.is.map itT) ++ [wdT [70, 82, 79, 77]] ++ tbT c ++ whT c.q.w := by simp
  rw [e9] at h9
  repeat' first | refine zzs ?_ | refine zzb ?_ | refine zzk ?_
  refine tr_draw (T := tab) tOk hnt mixedR (lexD (T := tab) rfl ?_ (callVD rfl rfl rfl rfl rfl rfl rfl rfl rfl (h1) (lexD (T := tab) rfl ?_ (callVD rfl rfl rfl rfl rfl rfl rfl rfl rfl (h2) (lexD (T := tab) rfl ?_ (callVD rfl rfl rfl rfl rfl rfl rfl rfl rfl (h3) (lexD (T := tab) rfl ?_ (callVD rfl rfl rfl rfl rfl rfl rfl rfl rfl (h4) (lexD (T := tab) rfl ?_ (callVD rfl rfl rfl rfl rfl rfl rfl rfl rfl (h5) (lexD (T := tab) rfl ?_ (callDU rfl rfl rfl rfl rfl rfl rfl rfl rfl (h9) (lexD (T := tab) rfl ?_ (.nil _)))))))))))))) (by first | decide +kernel | kernel_rfl) ?_
  ·exact zza
  ·exact zza
  ·exact zza
  ·exact zza
  ·exact zza
  ·exact zza
  ·exact zza
  have l3 : ([wdT [83, 69, 76, 69, 67, 84]] ++ lsT (c.q.is.map itT) ++ [wdT [70, 82, 79, 77]] ++ tbT c ++ whT c.q.w).length ≤ 6000 := by
   unfold tbT
   simp
   omega
  unfold quT
  clear h9 e9
  generalize [wdT [83, 69, 76, 69, 67, 84]] ++ lsT (c.q.is.map itT) ++ [wdT [70, 82, 79, 77]] ++ tbT c ++ whT c.q.w = A3 at *
  refine tr_le (s' := St.of [(1, .one (.ptr 1 0 0)), (3, .one (.ptr 3 0 0)), (5, .one (.e (.sl (eLl (c.q.ss.map soT))))), (10, .one (.e (eTks A3))), ((1000000 + 3), .one (.eptr spE)), ((1000000 + 6), .one (.eptr mkE)), ((1000000 + 2), .one (.eptr awE))] [(1, ⟨0, .box (.es (eCmd c)), 0⟩), (3, ⟨0, .box (.es (eQry c.q)), 0⟩)]) (le_of (ad := []) ⟨zzl, zzl, zzl, zzl, zzl, zzl, zzl, trivial⟩ (memOk_box rfl rfl rfl (memOk_box rfl rfl rfl trivial))) ?_
  repeat' first | refine zzs ?_ | refine zzb ?_ | refine zzk ?_
  first | refine zzr hnt rfl ?_ ?_ | refine zzd hnt rfl ?_ ?_
  ·exact zza
  first | refine tr_join (σ := List Tok) (fun A => St.of [(1, .one (.ptr 1 0 0)), (3, .one (.ptr 3 0 0)), (5, .one (.e (.sl (eLl (c.q.ss.map soT))))), (10, .one (.e (eTks A))), ((1000000 + 3), .one (.eptr spE)), ((1000000 + 6), .one (.eptr mkE)), ((1000000 + 2), .one (.eptr awE))] [(1, ⟨0, .box (.es (eCmd c)), 0⟩), (3, ⟨0, .box (.es (eQry c.q)), 0⟩)]) (fun A => A = A3 ++ if c.q.g = [] then [] else [wdT [71, 82, 79, 85, 80], wdT [66, 89], naT c.q.g]) ?_ ?_ | refine tr_seq (tr_join (σ := List Tok) (fun A => St.of [(1, .one (.ptr 1 0 0)), (3, .one (.ptr 3 0 0)), (5, .one (.e (.sl (eLl (c.q.ss.map soT))))), (10, .one (.e (eTks A))), ((1000000 + 3), .one (.eptr spE)), ((1000000 + 6), .one (.eptr mkE)), ((1000000 + 2), .one (.eptr awE))] [(1, ⟨0, .box (.es (eCmd c)), 0⟩), (3, ⟨0, .box (.es (eQry c.q)), 0⟩)]) (fun A => A = A3 ++ if c.q.g = [] then [] else [wdT [71, 82, 79, 85, 80], wdT [66, 89], naT c.q.g]) ?_ ?_)
  ·repeat' first | refine zzs ?_ | refine zzb ?_ | refine zzk ?_
   refine tr_cond rfl (fun hc => ?_) (fun hc => ?_)
   ·have hg0 : ¬ c.q.g = [] := by
     have hc : (!strEq (strB c.q.g) (strB [])) = true := hc
     rw [strEq_B] at hc
     simpa using hc
    have g1 := tokens_GROUP_BY
    have g2 := nameTok_fn c.q.g
    have g9 := cat_fn [A3, [wdT [71, 82, 79, 85, 80], wdT [66, 89]], [naT c.q.g]] (Nat.le_of_ble_eq_true rfl) (by simp; omega)
    rw [show ([A3, [wdT [71, 82, 79, 85, 80], wdT [66, 89]], [naT c.q.g]] : List (List Tok)).flatten = A3 ++ [wdT [71, 82, 79, 85, 80], wdT [66, 89], naT c.q.g] from by simp] at g9
    repeat' first | refine zzs ?_ | refine zzb ?_ | refine zzk ?_
    refine tr_draw (T := tab) tOk hnt mixedR (lexD (T := tab) rfl ?_ (callVD rfl rfl rfl rfl rfl rfl rfl rfl rfl (g1) (lexD (T := tab) rfl ?_ (callD rfl rfl rfl rfl rfl rfl rfl rfl (g2) (lexD (T := tab) rfl ?_ (callDU rfl rfl rfl rfl rfl rfl rfl rfl rfl (g9) (lexD (T := tab) rfl ?_ (.nil _)))))))) (by first | decide +kernel | kernel_rfl) ?_
    ·exact zza
    ·exact zza
    ·exact zza
    ·exact zza
    repeat' first | refine zzs ?_ | refine zzb ?_ | refine zzk ?_
    refine ⟨(A3 ++ [wdT [71, 82, 79, 85, 80], wdT [66, 89], naT c.q.g]), (by rw [if_neg hg0]), le_of (ad := []) ⟨zzl, zzl, zzl, zzl, zzl, zzl, zzl, trivial⟩ (memOk_box rfl rfl rfl (memOk_box rfl rfl rfl trivial))⟩
   have hg0 : c.q.g = [] := by
    have hc : (!strEq (strB c.q.g) (strB [])) = false := hc
    rw [strEq_B] at hc
    simpa using hc
   repeat' first | refine zzs ?_ | refine zzb ?_ | refine zzk ?_
   refine ⟨A3, (by rw [if_pos hg0, List.append_nil]), le_of (ad := []) ⟨zzl, zzl, zzl, zzl, zzl, zzl, zzl, trivial⟩ (memOk_box rfl rfl rfl (memOk_box rfl rfl rfl trivial))⟩
  rintro A4 hA4
  have l4 : A4.length ≤ 6010 := by
   rw [hA4]
   split <;> simp <;> omega
  rw [← hA4]
  repeat' first | refine zzs ?_ | refine zzb ?_ | refine zzk ?_
  first | refine zzr hnt rfl ?_ ?_ | refine zzd hnt rfl ?_ ?_
  ·exact zza
  first | refine tr_join (σ := List Tok) (fun A => St.of [(1, .one (.ptr 1 0 0)), (3, .one (.ptr 3 0 0)), (5, .one (.e (.sl (eLl (c.q.ss.map soT))))), (10, .one (.e (eTks A))), ((1000000 + 3), .one (.eptr spE)), ((1000000 + 6), .one (.eptr mkE)), ((1000000 + 2), .one (.eptr awE))] [(1, ⟨0, .box (.es (eCmd c)), 0⟩), (3, ⟨0, .box (.es (eQry c.q)), 0⟩)]) (fun A => A = A4 ++ if c.q.ss = [] then [] else [wdT [79, 82, 68, 69, 82], wdT [66, 89]] ++ lsT (c.q.ss.map soT)) ?_ ?_ | refine tr_seq (tr_join (σ := List Tok) (fun A => St.of [(1, .one (.ptr 1 0 0)), (3, .one (.ptr 3 0 0)), (5, .one (.e (.sl (eLl (c.q.ss.map soT))))), (10, .one (.e (eTks A))), ((1000000 + 3), .one (.eptr spE)), ((1000000 + 6), .one (.eptr mkE)), ((1000000 + 2), .one (.eptr awE))] [(1, ⟨0, .box (.es (eCmd c)), 0⟩), (3, ⟨0, .box (.es (eQry c.q)), 0⟩)]) (fun A => A = A4 ++ if c.q.ss = [] then [] else [wdT [79, 82, 68, 69, 82], wdT [66, 89]] ++ lsT (c.q.ss.map soT)) ?_ ?_)
  ·have hsl : (eLl (c.q.ss.map soT)).length = c.q.ss.length := by
    unfold eLl
    rw [List.length_map, hts]
   repeat' first | refine zzs ?_ | refine zzb ?_ | refine zzk ?_
   refine tr_cond rfl (fun hc => ?_) (fun hc => ?_)
   ·have hs0 : ¬ c.q.ss = [] := by
     have hc := of_decide_eq_true hc
     rw [hsl] at hc
     intro e
     rw [e] at hc
     exact absurd hc (by decide)
    have g1 := tokens_ORDER_BY
    have g2 := listed_fn (c.q.ss.map soT) 3 hB2 (by rw [hts]; omega)
    have g9 := cat_fn [A4, [wdT [79, 82, 68, 69, 82], wdT [66, 89]], lsT (c.q.ss.map soT)] (Nat.le_of_ble_eq_true rfl) (by simp; omega)
    rw [show ([A4, [wdT [79, 82, 68, 69, 82], wdT [66, 89]], lsT (c.q.ss.map soT)] : List (List Tok)).flatten = A4 ++ ([wdT [79, 82, 68, 69, 82], wdT [66, 89]] ++ lsT (c.q.ss.map soT)) from by simp] at g9
    repeat' first | refine zzs ?_ | refine zzb ?_ | refine zzk ?_
    refine tr_region (zzx hnt rfl ?_ (callV rfl rfl rfl rfl rfl rfl rfl hnt rfl (g1) (zzx hnt rfl ?_ (callV rfl rfl rfl rfl rfl rfl rfl hnt rfl (g2) (zzx hnt rfl ?_ (callU rfl rfl rfl rfl rfl rfl rfl hnt (g9) (zzx hnt rfl ?_ (Lex.nil _)))))))) ?_
    ·exact zza
    ·exact zza
    ·exact zza
    ·exact zza
    repeat' first | refine zzs ?_ | refine zzb ?_ | refine zzk ?_
    refine ⟨(A4 ++ ([wdT [79, 82, 68, 69, 82], wdT [66, 89]] ++ lsT (c.q.ss.map soT))), (by rw [if_neg hs0]), le_of (ad := []) ⟨zzl, zzl, zzl, zzl, zzl, zzl, zzl, trivial⟩ (memOk_box rfl rfl rfl (memOk_box rfl rfl rfl trivial))⟩
   have hs0 : c.q.ss = [] := by
    have hc := of_decide_eq_false hc
    rw [hsl] at hc
    exact List.eq_nil_of_length_eq_zero (by omega)
   repeat' first | refine zzs ?_ | refine zzb ?_ | refine zzk ?_
   refine ⟨A4, (by rw [if_pos hs0, List.append_nil]), le_of (ad := []) ⟨zzl, zzl, zzl, zzl, zzl, zzl, zzl, trivial⟩ (memOk_box rfl rfl rfl (memOk_box rfl rfl rfl trivial))⟩
  rintro A5 hA5
  have l5 : A5.length ≤ 7000 := by
   rw [hA5]
   split <;> simp <;> omega
  rw [← hA5]
  repeat' first | refine zzs ?_ | refine zzb ?_ | refine zzk ?_
  first | refine zzr hnt rfl ?_ ?_ | refine zzd hnt rfl ?_ ?_
  ·exact zza
  repeat' first | refine zzs ?_ | refine zzb ?_ | refine zzk ?_
  refine tr_cond rfl (fun hc => ?_) (fun hc => ?_)
  ·have hcu : c.q.c = true := hc
   rw [if_pos hcu]
   have g1 := tokens_LIMIT
   have g2 := numTok_fn c.q.m
   have g9 := cat_fn [A5, [wdT [76, 73, 77, 73, 84]], [nuT c.q.m]] (Nat.le_of_ble_eq_true rfl) (by simp; omega)
   rw [show ([A5, [wdT [76, 73, 77, 73, 84]], [nuT c.q.m]] : List (List Tok)).flatten = A5 ++ [wdT [76, 73, 77, 73, 84], nuT c.q.m] from by simp] at g9
   repeat' first | refine zzs ?_ | refine zzb ?_ | refine zzk ?_
   refine tr_draw (T := tab) tOk hnt mixedR (lexD (T := tab) rfl ?_ (callVD rfl rfl rfl rfl rfl rfl rfl rfl rfl (g1) (lexD (T := tab) rfl ?_ (callD rfl rfl rfl rfl rfl rfl rfl rfl (g2) (lexD (T := tab) rfl ?_ (callDU rfl rfl rfl rfl rfl rfl rfl rfl rfl (g9) (lexD (T := tab) rfl ?_ (.nil _)))))))) (by first | decide +kernel | kernel_rfl) ?_
   ·exact zza
   ·exact zza
   ·exact zza
   ·exact zza
   repeat' first | refine zzs ?_ | refine zzr hnt rfl ?_ ?_ | refine zzd hnt rfl ?_ ?_ | refine zzb ?_ | refine zzk ?_
   ·exact zzt
   exact tr_ret ⟨.inr rfl, _, _, rfl, zzp, rfl⟩
  have hcu : ¬ c.q.c = true := by
   have hc : c.q.c = false := hc
   rw [hc]
   exact Bool.noConfusion
  rw [if_neg hcu, List.append_nil]
  repeat' first | refine zzs ?_ | refine zzr hnt rfl ?_ ?_ | refine zzd hnt rfl ?_ ?_ | refine zzb ?_ | refine zzk ?_
  ·exact zzt
  exact tr_ret ⟨.inr rfl, _, _, rfl, zzp, rfl⟩
end Go.Proofs.YtjabmeffgbaglaaDoor
namespace Go.Proofs.YtjabmeffgbaglaaDoor
open Go Go.RowKit Go.Proofs.YtjabmeffgbaglaaDoor.Ab
set_option linter.unusedSimpArgs false
set_option linter.unusedVariables false
def kwE : List E := [[], [66, 79, 79, 76], [73, 78, 84], [82, 69, 65, 76], [84, 69, 88, 84]].map eT
def rwE : List E := [[], [82, 69, 65, 68], [87, 82, 73, 84, 69]].map eT
theorem kw_drop {a : Int} (h1 : 1 ≤ a) (h2 : a ≤ 4) : ∃ r, List.drop (a.toNat * 1) kwE = eT (kwT a) :: r := by
 rcases (by omega : a = 1 ∨ a = 2 ∨ a = 3 ∨ a = 4) with rfl | rfl | rfl | rfl <;> exact ⟨_, rfl⟩
theorem tks_kw {a : Int} (h1 : 1 ≤ a) (h2 : a ≤ 4) : Tks (kwT a) [wdT (kwT a)] := by
 rcases (by omega : a = 1 ∨ a = 2 ∨ a = 3 ∨ a = 4) with rfl | rfl | rfl | rfl
 ·exact tokens_BOOL
 ·exact tokens_INT
 ·exact tokens_REAL
 ·exact tokens_TEXT
theorem rw_drop {a : Int} (h : a = 1 ∨ a = 2) : ∃ r, List.drop (a.toNat * 1) rwE = eT (rwT a) :: r := by
 rcases h with rfl | rfl <;> exact ⟨_, rfl⟩
theorem tks_gr {a : Int} (h : a = 1 ∨ a = 2) : Tks ([71, 82, 65, 78, 84, 32] ++ rwT a ++ [32, 79, 78]) [wdT [71, 82, 65, 78, 84], wdT (rwT a), wdT [79, 78]] := by
 rcases h with rfl | rfl
 ·exact tokens_GRANT_READ_ON
 ·exact tokens_GRANT_WRITE_ON
theorem tks_rv {a : Int} (h : a = 1 ∨ a = 2) : Tks ([82, 69, 86, 79, 75, 69, 32] ++ rwT a ++ [32, 79, 78]) [wdT [82, 69, 86, 79, 75, 69], wdT (rwT a), wdT [79, 78]] := by
 rcases h with rfl | rfl
 ·exact tokens_REVOKE_READ_ON
 ·exact tokens_REVOKE_WRITE_ON
theorem chk_b {v : Val} (h : chk v = 0) : v.k = 1 → v.i = 0 ∨ v.i = 1 := by
 unfold chk at h
 split at h
 ·cases h
 split at h
 ·cases h
 split at h
 ·cases h
 split at h
 ·cases h
 omega
set_option maxRecDepth 10000 in
set_option maxHeartbeats 2000000 in
theorem commandToks_fn (c : Cmd) (h0 : cOk c) (h02 : cOk2 c) : FnG Tryd.prog 10 ([(3, spE), (6, mkE), (0, kwE), (1, rwE), (2, awE)]) [.agg (.es (eCmd c))] (.one (.e (eTks (cmT c)))) := by
 refine fn_introG (T := tab) tOk Tryd.func10 rfl (by kernel_rfl) (by simp [Tryd.ntmps10]) ?_
 intro X hX
 have hnt : X.nt = 168 := hX
 clear hX
 have f29 : 0 + 29 ≤ (Cs.es (eCmd c)).len := Nat.le_refl 29
 have lof := ofT_len c true
 unfold cmT
 repeat' first | refine zzs ?_ | refine zzb ?_ | refine zzk ?_
 first | refine zzr hnt rfl ?_ ?_ | refine zzd hnt rfl ?_ ?_
 ·exact zza
 repeat' first | refine zzs ?_ | refine zzb ?_ | refine zzk ?_
 first | refine zzr hnt rfl ?_ ?_ | refine zzd hnt rfl ?_ ?_
 ·exact zza
 repeat' first | refine zzs ?_ | refine zzb ?_ | refine zzk ?_
 first | refine zzr hnt rfl ?_ ?_ | refine zzd hnt rfl ?_ ?_
 ·exact zza
 repeat' first | refine zzs ?_ | refine zzr hnt rfl ?_ ?_ | refine zzd hnt rfl ?_ ?_ | refine zzb ?_ | refine zzk ?_
 ·exact zzt
 repeat' first | refine zzs ?_ | refine zzb ?_ | refine zzk ?_
 refine tr_cond rfl (fun hc => ?_) (fun hc => ?_)
 ·have hk : c.k = 1 := of_decide_eq_true hc
  rw [if_pos hk]
  have lcs := h0.cs hk
  have hcs := h02.cs hk
  have lis : (c.cs.map eCol).length = c.cs.length := List.length_map ..
  repeat' first | refine zzs ?_ | refine zzr hnt rfl ?_ ?_ | refine zzd hnt rfl ?_ ?_ | refine zzb ?_ | refine zzk ?_
  ·exact zzt
  repeat' first | refine zzs ?_ | refine zzb ?_ | refine zzk ?_
  refine tr_loop (σ := Nat) (fun i => St.of [(1, .one (.ptr 1 0 0)), (3, .one (.own 5000 0)), (16, .one (.e (.sl (c.cs.map eCol)))), (17, .one (.e (eI ((c.cs.map eCol).length : Int)))), (18, .one (.e (eI (i : Int)))), ((1000000 + 3), .one (.eptr spE)), ((1000000 + 6), .one (.eptr mkE)), ((1000000 + 0), .one (.eptr kwE)), ((1000000 + 1), .one (.eptr rwE)), ((1000000 + 2), .one (.eptr awE))] [(1, ⟨0, .box (.es (eCmd c)), 0⟩), (5000, ⟨0, .row 1 (eLl ((c.cs.take i).map coT)), 0⟩)]) (fun i => i ≤ c.cs.length) (fun i => c.cs.length - i) (0) (le_of (ad := [5000]) ⟨zzl, zzl, zzl, zzl, zzl, zzl, zzl, zzl, zzl, zzl, trivial⟩ (memOk_box rfl rfl rfl (memOk_new rfl (by decide) trivial))) (Nat.zero_le _) ?_
  rintro i il
  repeat' first | refine zzs ?_ | refine zzr hnt rfl ?_ ?_ | refine zzd hnt rfl ?_ ?_ | refine zzb ?_ | refine zzk ?_
  ·exact zzt
  repeat' first | refine zzs ?_ | refine zzb ?_ | refine zzk ?_
  refine tr_cond rfl (fun hc => ?_) (fun hc => ?_)
  ·simp only [zz1, zz2, zz3, zz4, zz5, zz6, zz7, zz8] at hc
   (try simp only [lis] at hc)
   (try simp only [zz1, zz2, zz3, zz4, zz5, zz6, zz7, zz8] at hc)
   have hlt : i < c.cs.length := by omega
   have hg : (c.cs.map eCol).getD i [] = eCol (c.cs.getD i col0) := by
    rw [List.getD_eq_getElem?_getD, List.getElem?_map, List.getElem?_eq_getElem hlt, List.getD_eq_getElem?_getD, List.getElem?_eq_getElem hlt]
    rfl
   have hmem : c.cs.getD i col0 ∈ c.cs := by
    rw [List.getD_eq_getElem?_getD, List.getElem?_eq_getElem hlt]
    exact List.getElem_mem hlt
   have htk : (c.cs.take (i + 1)).map coT = (c.cs.take i).map coT ++ [coT (c.cs.getD i col0)] := by
    rw [List.take_add_one, List.getD_eq_getElem?_getD, List.getElem?_eq_getElem hlt, List.map_append]
    rfl
   have hpl : (eLl ((c.cs.take i).map coT)).length = i := by
    unfold eLl
    rw [List.length_map, List.length_map, List.length_take]
    omega
   have hq1 : (eLl ((c.cs.take i).map coT)).length + 1 ≤ maxLen := by rw [hpl]; simp only [maxLen]; omega
   have hq2 : ((eLl ((c.cs.take i).map coT)).length + 1) * 24 ≤ 140737488355328 := by rw [hpl]; omega
   have hkk := hcs _ hmem
   repeat' first | refine zzs ?_ | refine zzb ?_ | refine zzk ?_
   first | refine zzr hnt rfl ?_ ?_ | refine zzd hnt rfl ?_ ?_
   ·rw [Int.toNat_natCast, hg, lis]
    exact zza
   rw [Int.toNat_natCast, hg]
   generalize c.cs.getD i col0 = k at *
   refine tr_le (s' := St.of [(1, .one (.ptr 1 0 0)), (3, .one (.own 5000 0)), (5, .one (.ptr 5 0 0)), (16, .one (.e (.sl (c.cs.map eCol)))), (17, .one (.e (eI ((c.cs.map eCol).length : Int)))), (18, .one (.e (eI (i : Int)))), ((1000000 + 3), .one (.eptr spE)), ((1000000 + 6), .one (.eptr mkE)), ((1000000 + 0), .one (.eptr kwE)), ((1000000 + 1), .one (.eptr rwE)), ((1000000 + 2), .one (.eptr awE))] [(1, ⟨0, .box (.es (eCmd c)), 0⟩), (5000, ⟨0, .row 1 (eLl ((c.cs.take i).map coT)), 0⟩), (5, ⟨0, .box (.es (eCol k)), 0⟩)]) (le_of (ad := []) ⟨zzl, zzl, zzl, zzl, zzl, zzl, zzl, zzl, zzl, zzl, zzl, trivial⟩ (memOk_box rfl rfl rfl (memOk_row rfl rfl rfl (memOk_box rfl rfl rfl trivial)))) ?_
   have h1 := nameTok_fn k.n
   have h2 := tks_kw hkk.1 hkk.2
   unfold Tks at h2
   obtain ⟨rr, hr⟩ := kw_drop hkk.1 hkk.2
   have hr2 : List.drop (((eCol k).getD (0 + 1) E.dflt).int.toNat * 1) kwE = eT (kwT k.k) :: rr := hr
   have e2 : eT (kwT k.k) = .v (.string ((List.drop (((eCol k).getD (0 + 1) E.dflt).int.toNat * 1) kwE).getD 0 E.dflt).str) := by
    rw [hr2]
    rfl
   rw [e2] at h2
   have ha2 : (0 : Int) ≤ ((eCol k).getD (0 + 1) E.dflt).int := by
    show 0 ≤ k.k
    omega
   have ha3 : ((eCol k).getD (0 + 1) E.dflt).int < ((5 : Nat) : Int) := by
    show k.k < ((5 : Nat) : Int)
    omega
   have hty : D0.isA .str ((Cs.es (eT (kwT k.k) :: rr)).at 0) := rfl
   have h3 := optional_fn (!k.u) [78, 79, 84, 32, 78, 85, 76, 76] _ tokens_NOT_NULL
   have h9 := cat_fn [[naT k.n], [wdT (kwT k.k)], if (!k.u) = true then [wdT [78, 79, 84], wdT [78, 85, 76, 76]] else []] (Nat.le_of_ble_eq_true rfl) (by split <;> simp)
   rw [show ([[naT k.n], [wdT (kwT k.k)], if (!k.u) = true then [wdT [78, 79, 84], wdT [78, 85, 76, 76]] else []] : List (List Tok)).flatten = coT k from by unfold coT; cases k.u <;> simp] at h9
   repeat' first | refine zzs ?_ | refine zzb ?_ | refine zzk ?_
   refine tr_draw (T := tab) tOk hnt mixedR (lexD (T := tab) rfl ?_ (callD rfl rfl rfl rfl rfl rfl rfl rfl (h1) (lexD (T := tab) rfl ?_ (callVD rfl rfl rfl rfl rfl rfl rfl rfl rfl (h2) (lexD (T := tab) rfl ?_ (callVD rfl rfl rfl rfl rfl rfl rfl rfl rfl (h3) (lexD (T := tab) rfl ?_ (callDU rfl rfl rfl rfl rfl rfl rfl rfl rfl (h9) (lexD (T := tab) rfl ?_ (.nil _)))))))))) (by first | decide +kernel | kernel_rfl) ?_
   ·exact zza
   ·rw [hr2]
    exact zza
   ·exact zza
   ·exact zza
   ·exact zza
   repeat' first | refine zzs ?_ | refine zzr hnt rfl ?_ ?_ | refine zzd hnt rfl ?_ ?_ | refine zzb ?_ | refine zzk ?_
   ·exact zzt
   refine ⟨i + 1, hlt, by omega, le_of (ad := []) ⟨zzl, zzl, zzl, zzl, zzl, zzl, zzl, zzl, zzl, zzl, trivial⟩ (memOk_box rfl rfl rfl (memOk_row rfl rfl (by rw [htk]; exact eLl_snoc _ _) trivial))⟩
  simp only [zz1, zz2, zz3, zz4, zz5, zz6, zz7, zz8] at hc
  (try simp only [lis] at hc)
  (try simp only [zz1, zz2, zz3, zz4, zz5, zz6, zz7, zz8] at hc)
  have hi : i = c.cs.length := by omega
  rw [hi, List.take_length]
  refine tr_exit ?_
  refine tr_le (le_frz 3 rfl rfl) ?_
  have hti : (c.cs.map coT).length = c.cs.length := List.length_map ..
  have hB : ∀ x ∈ c.cs.map coT, x.length ≤ 4 := fun x hx => by
   obtain ⟨t, ht, rfl⟩ := List.mem_map.1 hx
   exact coT_len t
  have hlb := lsT_len 4 _ hB
  rw [hti] at hlb
  have g1 := tokens_CREATE_TABLE
  have g2 := nameTok_fn c.tb
  have g3 := tokens_c
  have g4 := listed_fn (c.cs.map coT) 4 hB (by rw [hti]; omega)
  have g5 := tokens_d
  have g9 := cat_fn [[wdT [67, 82, 69, 65, 84, 69], wdT [84, 65, 66, 76, 69]], [naT c.tb], [sgT [40]], lsT (c.cs.map coT), [sgT [41]]] (Nat.le_of_ble_eq_true rfl) (by simp; omega)
  rw [show ([[wdT [67, 82, 69, 65, 84, 69], wdT [84, 65, 66, 76, 69]], [naT c.tb], [sgT [40]], lsT (c.cs.map coT), [sgT [41]]] : List (List Tok)).flatten = [wdT [67, 82, 69, 65, 84, 69], wdT [84, 65, 66, 76, 69], naT c.tb, sgT [40]] ++ lsT (c.cs.map coT) ++ [sgT [41]] from by simp] at g9
  repeat' first | refine zzs ?_ | refine zzb ?_ | refine zzk ?_
  refine tr_draw (T := tab) tOk hnt mixedR (lexD (T := tab) rfl ?_ (callVD rfl rfl rfl rfl rfl rfl rfl rfl rfl (g1) (lexD (T := tab) rfl ?_ (callD rfl rfl rfl rfl rfl rfl rfl rfl (g2) (lexD (T := tab) rfl ?_ (callVD rfl rfl rfl rfl rfl rfl rfl rfl rfl (g3) (lexD (T := tab) rfl ?_ (callVD rfl rfl rfl rfl rfl rfl rfl rfl rfl (g4) (lexD (T := tab) rfl ?_ (callVD rfl rfl rfl rfl rfl rfl rfl rfl rfl (g5) (lexD (T := tab) rfl ?_ (callDU rfl rfl rfl rfl rfl rfl rfl rfl rfl (g9) (lexD (T := tab) rfl ?_ (.nil _)))))))))))))) (by first | decide +kernel | kernel_rfl) ?_
  ·exact zza
  ·exact zza
  ·exact zza
  ·exact zza
  ·exact zza
  ·exact zza
  ·exact zza
  exact tr_ret ⟨.inr rfl, _, _, rfl, zzp, rfl⟩
 have k1 : ¬ c.k = 1 := of_decide_eq_false hc
 rw [if_neg k1]
 clear hc
 repeat' first | refine zzs ?_ | refine zzr hnt rfl ?_ ?_ | refine zzd hnt rfl ?_ ?_ | refine zzb ?_ | refine zzk ?_
 ·exact zzt
 repeat' first | refine zzs ?_ | refine zzb ?_ | refine zzk ?_
 refine tr_cond rfl (fun hc => ?_) (fun hc => ?_)
 ·have hk : c.k = 2 := of_decide_eq_true hc
  rw [if_pos hk]
  obtain ⟨lro, hv, hv2⟩ := h0.ro hk
  have lis : (c.ro.map eVal).length = c.ro.length := List.length_map ..
  repeat' first | refine zzs ?_ | refine zzr hnt rfl ?_ ?_ | refine zzd hnt rfl ?_ ?_ | refine zzb ?_ | refine zzk ?_
  ·exact zzt
  repeat' first | refine zzs ?_ | refine zzb ?_ | refine zzk ?_
  refine tr_loop (σ := Nat) (fun i => St.of [(1, .one (.ptr 1 0 0)), (3, .one (.own 5000 0)), (53, .one (.e (.sl (c.ro.map eVal)))), (54, .one (.e (eI ((c.ro.map eVal).length : Int)))), (55, .one (.e (eI (i : Int)))), ((1000000 + 3), .one (.eptr spE)), ((1000000 + 6), .one (.eptr mkE)), ((1000000 + 0), .one (.eptr kwE)), ((1000000 + 1), .one (.eptr rwE)), ((1000000 + 2), .one (.eptr awE))] [(1, ⟨0, .box (.es (eCmd c)), 0⟩), (5000, ⟨0, .row 1 (eLl ((c.ro.take i).map vlT)), 0⟩)]) (fun i => i ≤ c.ro.length) (fun i => c.ro.length - i) (0) (le_of (ad := [5000]) ⟨zzl, zzl, zzl, zzl, zzl, zzl, zzl, zzl, zzl, zzl, trivial⟩ (memOk_box rfl rfl rfl (memOk_new rfl (by decide) trivial))) (Nat.zero_le _) ?_
  rintro i il
  repeat' first | refine zzs ?_ | refine zzr hnt rfl ?_ ?_ | refine zzd hnt rfl ?_ ?_ | refine zzb ?_ | refine zzk ?_
  ·exact zzt
  repeat' first | refine zzs ?_ | refine zzb ?_ | refine zzk ?_
  refine tr_cond rfl (fun hc => ?_) (fun hc => ?_)
  ·simp only [zz1, zz2, zz3, zz4, zz5, zz6, zz7, zz8] at hc
   (try simp only [lis] at hc)
   (try simp only [zz1, zz2, zz3, zz4, zz5, zz6, zz7, zz8] at hc)
   have hlt : i < c.ro.length := by omega
   have hg : (c.ro.map eVal).getD i [] = eVal (c.ro.getD i val0) := by
    rw [List.getD_eq_getElem?_getD, List.getElem?_map, List.getElem?_eq_getElem hlt, List.getD_eq_getElem?_getD, List.getElem?_eq_getElem hlt]
    rfl
   have hmem : c.ro.getD i val0 ∈ c.ro := by
    rw [List.getD_eq_getElem?_getD, List.getElem?_eq_getElem hlt]
    exact List.getElem_mem hlt
   have htk : (c.ro.take (i + 1)).map vlT = (c.ro.take i).map vlT ++ [vlT (c.ro.getD i val0)] := by
    rw [List.take_add_one, List.getD_eq_getElem?_getD, List.getElem?_eq_getElem hlt, List.map_append]
    rfl
   have hpl : (eLl ((c.ro.take i).map vlT)).length = i := by
    unfold eLl
    rw [List.length_map, List.length_map, List.length_take]
    omega
   have hq1 : (eLl ((c.ro.take i).map vlT)).length + 1 ≤ maxLen := by rw [hpl]; simp only [maxLen]; omega
   have hq2 : ((eLl ((c.ro.take i).map vlT)).length + 1) * 24 ≤ 140737488355328 := by rw [hpl]; omega
   have hv := hv _ hmem
   have hv2 := hv2 _ hmem
   repeat' first | refine zzs ?_ | refine zzb ?_ | refine zzk ?_
   first | refine zzr hnt rfl ?_ ?_ | refine zzd hnt rfl ?_ ?_
   ·rw [Int.toNat_natCast, hg, lis]
    exact zza
   rw [Int.toNat_natCast, hg]
   generalize c.ro.getD i val0 = v at *
   refine tr_le (s' := St.of [(1, .one (.ptr 1 0 0)), (3, .one (.own 5000 0)), (7, .one (.ptr 7 0 0)), (53, .one (.e (.sl (c.ro.map eVal)))), (54, .one (.e (eI ((c.ro.map eVal).length : Int)))), (55, .one (.e (eI (i : Int)))), ((1000000 + 3), .one (.eptr spE)), ((1000000 + 6), .one (.eptr mkE)), ((1000000 + 0), .one (.eptr kwE)), ((1000000 + 1), .one (.eptr rwE)), ((1000000 + 2), .one (.eptr awE))] [(1, ⟨0, .box (.es (eCmd c)), 0⟩), (5000, ⟨0, .row 1 (eLl ((c.ro.take i).map vlT)), 0⟩), (7, ⟨0, .box (.es (eVal v)), 0⟩)]) (le_of (ad := []) ⟨zzl, zzl, zzl, zzl, zzl, zzl, zzl, zzl, zzl, zzl, zzl, trivial⟩ (memOk_box rfl rfl rfl (memOk_row rfl rfl rfl (memOk_box rfl rfl rfl trivial)))) ?_
   repeat' first | refine zzs ?_ | refine zzb ?_ | refine zzk ?_
   first | refine zzr hnt rfl ?_ ?_ | refine zzd hnt rfl ?_ ?_
   ·exact zza
   repeat' first | refine zzs ?_ | refine zzb ?_ | refine zzk ?_
   first | refine zzr hnt rfl ?_ ?_ | refine zzd hnt rfl ?_ ?_
   ·exact zzt
   repeat' first | refine zzs ?_ | refine zzb ?_ | refine zzk ?_
   refine tr_cond rfl (fun hc => ?_) (fun hc => ?_)
   ·have hn0 : v.i < 0 := of_decide_eq_true hc
    have hn : ngV v := by
     by_cases h2 : ngV v
     ·exact h2
     ·have := chk_i hv2.1 h2
      omega
    have hvl : vlT v = [sgT [45], ltT (ng0 v)] := by
     unfold vlT
     rw [if_pos hn]
     rfl
    rw [hvl] at htk
    have hng : IntKind.i64.wrap (0 - v.i) = -v.i := by
     rw [wrap64_id (by omega) (by omega)]
     omega
    have hbx : List.take (0 + 1) (eVal v) ++ [E.v (Value.int IntKind.i64 (IntKind.i64.wrap (0 - v.i)))] ++ List.drop (0 + 1 + 1) (eVal v) = eVal (ng0 v) := by
     rw [hng]
     rfl
    have hd1 : decide (v.i < 0) = true := decide_eq_true hn0
    repeat' first | refine zzs ?_ | refine zzb ?_ | refine zzk ?_
    first | refine zzr hnt rfl ?_ ?_ | refine zzd hnt rfl ?_ ?_
    ·exact zza
    refine tr_le (s' := St.of [(1, .one (.ptr 1 0 0)), (3, .one (.own 5000 0)), (7, .one (.ptr 7 0 0)), (8, .one (.e (.v (.bool (decide (v.i < 0)))))), (53, .one (.e (.sl (c.ro.map eVal)))), (54, .one (.e (eI ((c.ro.map eVal).length : Int)))), (55, .one (.e (eI (i : Int)))), ((1000000 + 3), .one (.eptr spE)), ((1000000 + 6), .one (.eptr mkE)), ((1000000 + 0), .one (.eptr kwE)), ((1000000 + 1), .one (.eptr rwE)), ((1000000 + 2), .one (.eptr awE))] [(1, ⟨0, .box (.es (eCmd c)), 0⟩), (5000, ⟨0, .row 1 (eLl ((c.ro.take i).map vlT)), 0⟩), (7, ⟨0, .box (.es (eVal (ng0 v))), 0⟩)]) (le_of (ad := []) ⟨zzl, zzl, zzl, zzl, zzl, zzl, zzl, zzl, zzl, zzl, zzl, zzl, trivial⟩ (memOk_box rfl rfl rfl (memOk_row rfl rfl rfl (memOk_box rfl rfl hbx trivial)))) ?_
    rw [hd1]
    have h1 := optional_fn true [45] _ tokens_a
    have h2 := litTokens_fn (ng0 v) (chk_b (ng_chk hv2.1 hn.1))
    have h9 := cat_fn [if true = true then [sgT [45]] else [], [ltT (ng0 v)]] (Nat.le_of_ble_eq_true rfl) (by simp)
    rw [show ([if true = true then [sgT [45]] else [], [ltT (ng0 v)]] : List (List Tok)).flatten = [sgT [45], ltT (ng0 v)] from by simp] at h9
    repeat' first | refine zzs ?_ | refine zzb ?_ | refine zzk ?_
    refine tr_draw (T := tab) tOk hnt mixedR (lexD (T := tab) rfl ?_ (callVD rfl rfl rfl rfl rfl rfl rfl rfl rfl (h1) (lexD (T := tab) rfl ?_ (callVD rfl rfl rfl rfl rfl rfl rfl rfl rfl (h2) (lexD (T := tab) rfl ?_ (callDU rfl rfl rfl rfl rfl rfl rfl rfl rfl (h9) (lexD (T := tab) rfl ?_ (.nil _)))))))) (by first | decide +kernel | kernel_rfl) ?_
    ·exact zza
    ·exact zza
    ·exact zza
    ·exact zza
    repeat' first | refine zzs ?_ | refine zzr hnt rfl ?_ ?_ | refine zzd hnt rfl ?_ ?_ | refine zzb ?_ | refine zzk ?_
    ·exact zzt
    refine ⟨i + 1, hlt, by omega, le_of (ad := []) ⟨zzl, zzl, zzl, zzl, zzl, zzl, zzl, zzl, zzl, zzl, trivial⟩ (memOk_box rfl rfl rfl (memOk_row rfl rfl (by rw [htk]; exact eLl_snoc _ _) trivial))⟩
   have hn0 : ¬ v.i < 0 := of_decide_eq_false hc
   have hn : ¬ ngV v := fun h => hn0 h.2
   have hvl : vlT v = [ltT v] := by
    unfold vlT
    rw [if_neg hn]
   rw [hvl] at htk
   have hd1 : decide (v.i < 0) = false := decide_eq_false hn0
   repeat' first | refine zzs ?_ | refine zzb ?_ | refine zzk ?_
   refine tr_le (s' := St.of [(1, .one (.ptr 1 0 0)), (3, .one (.own 5000 0)), (7, .one (.ptr 7 0 0)), (8, .one (.e (.v (.bool (decide (v.i < 0)))))), (53, .one (.e (.sl (c.ro.map eVal)))), (54, .one (.e (eI ((c.ro.map eVal).length : Int)))), (55, .one (.e (eI (i : Int)))), ((1000000 + 3), .one (.eptr spE)), ((1000000 + 6), .one (.eptr mkE)), ((1000000 + 0), .one (.eptr kwE)), ((1000000 + 1), .one (.eptr rwE)), ((1000000 + 2), .one (.eptr awE))] [(1, ⟨0, .box (.es (eCmd c)), 0⟩), (5000, ⟨0, .row 1 (eLl ((c.ro.take i).map vlT)), 0⟩), (7, ⟨0, .box (.es (eVal v)), 0⟩)]) (le_of (ad := []) ⟨zzl, zzl, zzl, zzl, zzl, zzl, zzl, zzl, zzl, zzl, zzl, zzl, trivial⟩ (memOk_box rfl rfl rfl (memOk_row rfl rfl rfl (memOk_box rfl rfl rfl trivial)))) ?_
   rw [hd1]
   have h1 := optional_fn false [45] _ tokens_a
   have h2 := litTokens_fn v (chk_b hv2.1)
   have h9 := cat_fn [if false = true then [sgT [45]] else [], [ltT v]] (Nat.le_of_ble_eq_true rfl) (by simp)
   rw [show ([if false = true then [sgT [45]] else [], [ltT v]] : List (List Tok)).flatten = [ltT v] from by simp] at h9
   repeat' first | refine zzs ?_ | refine zzb ?_ | refine zzk ?_
   refine tr_draw (T := tab) tOk hnt mixedR (lexD (T := tab) rfl ?_ (callVD rfl rfl rfl rfl rfl rfl rfl rfl rfl (h1) (lexD (T := tab) rfl ?_ (callVD rfl rfl rfl rfl rfl rfl rfl rfl rfl (h2) (lexD (T := tab) rfl ?_ (callDU rfl rfl rfl rfl rfl rfl rfl rfl rfl (h9) (lexD (T := tab) rfl ?_ (.nil _)))))))) (by first | decide +kernel | kernel_rfl) ?_
   ·exact zza
   ·exact zza
   ·exact zza
   ·exact zza
   repeat' first | refine zzs ?_ | refine zzr hnt rfl ?_ ?_ | refine zzd hnt rfl ?_ ?_ | refine zzb ?_ | refine zzk ?_
   ·exact zzt
   refine ⟨i + 1, hlt, by omega, le_of (ad := []) ⟨zzl, zzl, zzl, zzl, zzl, zzl, zzl, zzl, zzl, zzl, trivial⟩ (memOk_box rfl rfl rfl (memOk_row rfl rfl (by rw [htk]; exact eLl_snoc _ _) trivial))⟩
  simp only [zz1, zz2, zz3, zz4, zz5, zz6, zz7, zz8] at hc
  (try simp only [lis] at hc)
  (try simp only [zz1, zz2, zz3, zz4, zz5, zz6, zz7, zz8] at hc)
  have hi : i = c.ro.length := by omega
  rw [hi, List.take_length]
  refine tr_exit ?_
  refine tr_le (le_frz 3 rfl rfl) ?_
  have hti : (c.ro.map vlT).length = c.ro.length := List.length_map ..
  have hB : ∀ x ∈ c.ro.map vlT, x.length ≤ 2 := fun x hx => by
   obtain ⟨t, ht, rfl⟩ := List.mem_map.1 hx
   exact vlT_len t
  have hlb := lsT_len 2 _ hB
  rw [hti] at hlb
  have g1 := tokens_INSERT_INTO
  have g2 := drawerToks_fn c
  have g3 := tokens_VALUES_l
  have g4 := listed_fn (c.ro.map vlT) 2 hB (by rw [hti]; omega)
  have g5 := tokens_d
  have g9 := cat_fn [[wdT [73, 78, 83, 69, 82, 84], wdT [73, 78, 84, 79]], ofT c true, [wdT [86, 65, 76, 85, 69, 83], sgT [40]], lsT (c.ro.map vlT), [sgT [41]]] (Nat.le_of_ble_eq_true rfl) (by simp; omega)
  rw [show ([[wdT [73, 78, 83, 69, 82, 84], wdT [73, 78, 84, 79]], ofT c true, [wdT [86, 65, 76, 85, 69, 83], sgT [40]], lsT (c.ro.map vlT), [sgT [41]]] : List (List Tok)).flatten = [wdT [73, 78, 83, 69, 82, 84], wdT [73, 78, 84, 79]] ++ ofT c true ++ [wdT [86, 65, 76, 85, 69, 83], sgT [40]] ++ lsT (c.ro.map vlT) ++ [sgT [41]] from by simp] at g9
  repeat' first | refine zzs ?_ | refine zzb ?_ | refine zzk ?_
  refine tr_draw (T := tab) tOk hnt mixedR (lexD (T := tab) rfl ?_ (callVD rfl rfl rfl rfl rfl rfl rfl rfl rfl (g1) (lexD (T := tab) rfl ?_ (callVD rfl rfl rfl rfl rfl rfl rfl rfl rfl (g2) (lexD (T := tab) rfl ?_ (callVD rfl rfl rfl rfl rfl rfl rfl rfl rfl (g3) (lexD (T := tab) rfl ?_ (callVD rfl rfl rfl rfl rfl rfl rfl rfl rfl (g4) (lexD (T := tab) rfl ?_ (callVD rfl rfl rfl rfl rfl rfl rfl rfl rfl (g5) (lexD (T := tab) rfl ?_ (callDU rfl rfl rfl rfl rfl rfl rfl rfl rfl (g9) (lexD (T := tab) rfl ?_ (.nil _)))))))))))))) (by first | decide +kernel | kernel_rfl) ?_
  ·exact zza
  ·exact zza
  ·exact zza
  ·exact zza
  ·exact zza
  ·exact zza
  ·exact zza
  exact tr_ret ⟨.inr rfl, _, _, rfl, zzp, rfl⟩
 have k2 : ¬ c.k = 2 := of_decide_eq_false hc
 rw [if_neg k2]
 clear hc
 repeat' first | refine zzs ?_ | refine zzr hnt rfl ?_ ?_ | refine zzd hnt rfl ?_ ?_ | refine zzb ?_ | refine zzk ?_
 ·exact zzt
 repeat' first | refine zzs ?_ | refine zzb ?_ | refine zzk ?_
 refine tr_cond rfl (fun hc => ?_) (fun hc => ?_)
 ·have hk : c.k = 3 := of_decide_eq_true hc
  rw [if_pos hk]
  obtain ⟨lro, hx⟩ := h0.ss hk
  obtain ⟨w1, w2⟩ := h0.wh (.inl hk)
  have lis : (c.ss.map eSet).length = c.ss.length := List.length_map ..
  repeat' first | refine zzs ?_ | refine zzr hnt rfl ?_ ?_ | refine zzd hnt rfl ?_ ?_ | refine zzb ?_ | refine zzk ?_
  ·exact zzt
  repeat' first | refine zzs ?_ | refine zzb ?_ | refine zzk ?_
  refine tr_loop (σ := Nat) (fun i => St.of [(1, .one (.ptr 1 0 0)), (3, .one (.own 5000 0)), (89, .one (.e (.sl (c.ss.map eSet)))), (90, .one (.e (eI ((c.ss.map eSet).length : Int)))), (91, .one (.e (eI (i : Int)))), ((1000000 + 3), .one (.eptr spE)), ((1000000 + 6), .one (.eptr mkE)), ((1000000 + 0), .one (.eptr kwE)), ((1000000 + 1), .one (.eptr rwE)), ((1000000 + 2), .one (.eptr awE))] [(1, ⟨0, .box (.es (eCmd c)), 0⟩), (5000, ⟨0, .row 1 (eLl ((c.ss.take i).map seT)), 0⟩)]) (fun i => i ≤ c.ss.length) (fun i => c.ss.length - i) (0) (le_of (ad := [5000]) ⟨zzl, zzl, zzl, zzl, zzl, zzl, zzl, zzl, zzl, zzl, trivial⟩ (memOk_box rfl rfl rfl (memOk_new rfl (by decide) trivial))) (Nat.zero_le _) ?_
  rintro i il
  repeat' first | refine zzs ?_ | refine zzr hnt rfl ?_ ?_ | refine zzd hnt rfl ?_ ?_ | refine zzb ?_ | refine zzk ?_
  ·exact zzt
  repeat' first | refine zzs ?_ | refine zzb ?_ | refine zzk ?_
  refine tr_cond rfl (fun hc => ?_) (fun hc => ?_)
  ·simp only [zz1, zz2, zz3, zz4, zz5, zz6, zz7, zz8] at hc
   (try simp only [lis] at hc)
   (try simp only [zz1, zz2, zz3, zz4, zz5, zz6, zz7, zz8] at hc)
   have hlt : i < c.ss.length := by omega
   have hg : (c.ss.map eSet).getD i [] = eSet (c.ss.getD i set0) := by
    rw [List.getD_eq_getElem?_getD, List.getElem?_map, List.getElem?_eq_getElem hlt, List.getD_eq_getElem?_getD, List.getElem?_eq_getElem hlt]
    rfl
   have hmem : c.ss.getD i set0 ∈ c.ss := by
    rw [List.getD_eq_getElem?_getD, List.getElem?_eq_getElem hlt]
    exact List.getElem_mem hlt
   have htk : (c.ss.take (i + 1)).map seT = (c.ss.take i).map seT ++ [seT (c.ss.getD i set0)] := by
    rw [List.take_add_one, List.getD_eq_getElem?_getD, List.getElem?_eq_getElem hlt, List.map_append]
    rfl
   have hpl : (eLl ((c.ss.take i).map seT)).length = i := by
    unfold eLl
    rw [List.length_map, List.length_map, List.length_take]
    omega
   have hq1 : (eLl ((c.ss.take i).map seT)).length + 1 ≤ maxLen := by rw [hpl]; simp only [maxLen]; omega
   have hq2 : ((eLl ((c.ss.take i).map seT)).length + 1) * 24 ≤ 140737488355328 := by rw [hpl]; omega
   have hx := hx _ hmem
   repeat' first | refine zzs ?_ | refine zzb ?_ | refine zzk ?_
   first | refine zzr hnt rfl ?_ ?_ | refine zzd hnt rfl ?_ ?_
   ·rw [Int.toNat_natCast, hg, lis]
    exact zza
   rw [Int.toNat_natCast, hg]
   generalize c.ss.getD i set0 = k at *
   refine tr_le (s' := St.of [(1, .one (.ptr 1 0 0)), (3, .one (.own 5000 0)), (10, .one (.ptr 10 0 0)), (89, .one (.e (.sl (c.ss.map eSet)))), (90, .one (.e (eI ((c.ss.map eSet).length : Int)))), (91, .one (.e (eI (i : Int)))), ((1000000 + 3), .one (.eptr spE)), ((1000000 + 6), .one (.eptr mkE)), ((1000000 + 0), .one (.eptr kwE)), ((1000000 + 1), .one (.eptr rwE)), ((1000000 + 2), .one (.eptr awE))] [(1, ⟨0, .box (.es (eCmd c)), 0⟩), (5000, ⟨0, .row 1 (eLl ((c.ss.take i).map seT)), 0⟩), (10, ⟨0, .box (.es (eSet k)), 0⟩)]) (le_of (ad := []) ⟨zzl, zzl, zzl, zzl, zzl, zzl, zzl, zzl, zzl, zzl, zzl, trivial⟩ (memOk_box rfl rfl rfl (memOk_row rfl rfl rfl (memOk_box rfl rfl rfl trivial)))) ?_
   have hx0 := hx.2
   have hlx := len200 hx0
   have hs : Shown k.x := shown_all 40 k.x (exF_in hx0).1 (exF_in hx0).1 (exF_in hx0).2
   unfold Shown at hs
   rw [← seX k] at hs
   have h1 := nameTok_fn k.c
   have h2 := tokens_eq
   have h9 := cat_fn [[naT k.c], [sgT [61]], shX k.x] (Nat.le_of_ble_eq_true rfl) (by simp; omega)
   rw [show ([[naT k.c], [sgT [61]], shX k.x] : List (List Tok)).flatten = seT k from by unfold seT; simp] at h9
   repeat' first | refine zzs ?_ | refine zzb ?_ | refine zzk ?_
   refine tr_draw (T := tab) tOk hnt mixedR (lexD (T := tab) rfl ?_ (callD rfl rfl rfl rfl rfl rfl rfl rfl (h1) (lexD (T := tab) rfl ?_ (callVD rfl rfl rfl rfl rfl rfl rfl rfl rfl (h2) (lexD (T := tab) rfl ?_ (callVD rfl rfl rfl rfl rfl rfl rfl rfl rfl (hs) (lexD (T := tab) rfl ?_ (callDU rfl rfl rfl rfl rfl rfl rfl rfl rfl (h9) (lexD (T := tab) rfl ?_ (.nil _)))))))))) (by first | decide +kernel | kernel_rfl) ?_
   ·exact zza
   ·exact zza
   ·exact zza
   ·exact zza
   ·exact zza
   repeat' first | refine zzs ?_ | refine zzr hnt rfl ?_ ?_ | refine zzd hnt rfl ?_ ?_ | refine zzb ?_ | refine zzk ?_
   ·exact zzt
   refine ⟨i + 1, hlt, by omega, le_of (ad := []) ⟨zzl, zzl, zzl, zzl, zzl, zzl, zzl, zzl, zzl, zzl, trivial⟩ (memOk_box rfl rfl rfl (memOk_row rfl rfl (by rw [htk]; exact eLl_snoc _ _) trivial))⟩
  simp only [zz1, zz2, zz3, zz4, zz5, zz6, zz7, zz8] at hc
  (try simp only [lis] at hc)
  (try simp only [zz1, zz2, zz3, zz4, zz5, zz6, zz7, zz8] at hc)
  have hi : i = c.ss.length := by omega
  rw [hi, List.take_length]
  refine tr_exit ?_
  refine tr_le (le_frz 3 rfl rfl) ?_
  have hti : (c.ss.map seT).length = c.ss.length := List.length_map ..
  have hB : ∀ x ∈ c.ss.map seT, x.length ≤ 202 := fun x hx' => by
   obtain ⟨t, ht, rfl⟩ := List.mem_map.1 hx'
   exact seT_len (hx t ht).2
  have hlb := lsT_len 202 _ hB
  rw [hti] at hlb
  have lwh := whT_len w2
  have g1 := tokens_UPDATE
  have g2 := drawerToks_fn c
  have g3 := tokens_SET
  have g4 := listed_fn (c.ss.map seT) 202 hB (by rw [hti]; omega)
  have g5 := whereToks_fn c.wh w1 w2
  rw [← cw7] at g5
  have g9 := cat_fn [[wdT [85, 80, 68, 65, 84, 69]], ofT c true, [wdT [83, 69, 84]], lsT (c.ss.map seT), whT c.wh] (Nat.le_of_ble_eq_true rfl) (by simp; omega)
  rw [show ([[wdT [85, 80, 68, 65, 84, 69]], ofT c true, [wdT [83, 69, 84]], lsT (c.ss.map seT), whT c.wh] : List (List Tok)).flatten = [wdT [85, 80, 68, 65, 84, 69]] ++ ofT c true ++ [wdT [83, 69, 84]] ++ lsT (c.ss.map seT) ++ whT c.wh from by simp] at g9
  repeat' first | refine zzs ?_ | refine zzb ?_ | refine zzk ?_
  refine tr_draw (T := tab) tOk hnt mixedR (lexD (T := tab) rfl ?_ (callVD rfl rfl rfl rfl rfl rfl rfl rfl rfl (g1) (lexD (T := tab) rfl ?_ (callVD rfl rfl rfl rfl rfl rfl rfl rfl rfl (g2) (lexD (T := tab) rfl ?_ (callVD rfl rfl rfl rfl rfl rfl rfl rfl rfl (g3) (lexD (T := tab) rfl ?_ (callVD rfl rfl rfl rfl rfl rfl rfl rfl rfl (g4) (lexD (T := tab) rfl ?_ (callVD rfl rfl rfl rfl rfl rfl rfl rfl rfl (g5) (lexD (T := tab) rfl ?_ (callDU rfl rfl rfl rfl rfl rfl rfl rfl rfl (g9) (lexD (T := tab) rfl ?_ (.nil _)))))))))))))) (by first | decide +kernel | kernel_rfl) ?_
  ·exact zza
  ·exact zza
  ·exact zza
  ·exact zza
  ·exact zza
  ·exact zza
  ·exact zza
  exact tr_ret ⟨.inr rfl, _, _, rfl, zzp, rfl⟩
 have k3 : ¬ c.k = 3 := of_decide_eq_false hc
 rw [if_neg k3]
 clear hc
 repeat' first | refine zzs ?_ | refine zzr hnt rfl ?_ ?_ | refine zzd hnt rfl ?_ ?_ | refine zzb ?_ | refine zzk ?_
 ·exact zzt
 repeat' first | refine zzs ?_ | refine zzb ?_ | refine zzk ?_
 refine tr_cond rfl (fun hc => ?_) (fun hc => ?_)
 ·have hk : c.k = 4 := of_decide_eq_true hc
  rw [if_pos hk]
  obtain ⟨w1, w2⟩ := h0.wh (.inr hk)
  have lwh := whT_len w2
  have g1 := tokens_DELETE_FROM
  have g2 := drawerToks_fn c
  have g5 := whereToks_fn c.wh w1 w2
  rw [← cw7] at g5
  have g9 := cat_fn [[wdT [68, 69, 76, 69, 84, 69], wdT [70, 82, 79, 77]], ofT c true, whT c.wh] (Nat.le_of_ble_eq_true rfl) (by simp; omega)
  rw [show ([[wdT [68, 69, 76, 69, 84, 69], wdT [70, 82, 79, 77]], ofT c true, whT c.wh] : List (List Tok)).flatten = [wdT [68, 69, 76, 69, 84, 69], wdT [70, 82, 79, 77]] ++ ofT c true ++ whT c.wh from by simp] at g9
  repeat' first | refine zzs ?_ | refine zzb ?_ | refine zzk ?_
  refine tr_draw (T := tab) tOk hnt mixedR (lexD (T := tab) rfl ?_ (callVD rfl rfl rfl rfl rfl rfl rfl rfl rfl (g1) (lexD (T := tab) rfl ?_ (callVD rfl rfl rfl rfl rfl rfl rfl rfl rfl (g2) (lexD (T := tab) rfl ?_ (callVD rfl rfl rfl rfl rfl rfl rfl rfl rfl (g5) (lexD (T := tab) rfl ?_ (callDU rfl rfl rfl rfl rfl rfl rfl rfl rfl (g9) (lexD (T := tab) rfl ?_ (.nil _)))))))))) (by first | decide +kernel | kernel_rfl) ?_
  ·exact zza
  ·exact zza
  ·exact zza
  ·exact zza
  ·exact zza
  exact tr_ret ⟨.inr rfl, _, _, rfl, zzp, rfl⟩
 have k4 : ¬ c.k = 4 := of_decide_eq_false hc
 rw [if_neg k4]
 clear hc
 repeat' first | refine zzs ?_ | refine zzr hnt rfl ?_ ?_ | refine zzd hnt rfl ?_ ?_ | refine zzb ?_ | refine zzk ?_
 ·exact zzt
 repeat' first | refine zzs ?_ | refine zzb ?_ | refine zzk ?_
 refine tr_cond rfl (fun hc => ?_) (fun hc => ?_)
 ·have hk : c.k = 5 := of_decide_eq_true hc
  rw [if_pos hk]
  have g1 := selectToks_fn c (h0.q hk) (h02.i hk)
  repeat' first | refine zzs ?_ | refine zzb ?_ | refine zzk ?_
  refine tr_region (zzx hnt rfl ?_ (callV rfl rfl rfl rfl rfl rfl rfl hnt rfl (g1) (zzx hnt rfl ?_ (Lex.nil _)))) ?_
  ·exact zza
  ·exact zza
  exact tr_ret ⟨.inr rfl, _, _, rfl, zzp, rfl⟩
 have k5 : ¬ c.k = 5 := of_decide_eq_false hc
 rw [if_neg k5]
 clear hc
 repeat' first | refine zzs ?_ | refine zzr hnt rfl ?_ ?_ | refine zzd hnt rfl ?_ ?_ | refine zzb ?_ | refine zzk ?_
 ·exact zzt
 have hrt := h02.rt (by have := h0.k; omega)
 obtain ⟨rr, hr⟩ := rw_drop hrt
 have hr2 : List.drop (((eCmd c).getD (0 + 27) E.dflt).int.toNat * 1) rwE = eT (rwT c.rt) :: rr := hr
 have ha2 : (0 : Int) ≤ ((eCmd c).getD (0 + 27) E.dflt).int := by
  show 0 ≤ c.rt
  omega
 have ha3 : ((eCmd c).getD (0 + 27) E.dflt).int < ((3 : Nat) : Int) := by
  show c.rt < ((3 : Nat) : Int)
  omega
 have hty : D0.isA .str ((Cs.es (eT (rwT c.rt) :: rr)).at 0) := rfl
 have hsz : ((eT (rwT c.rt) :: rr).getD 0 E.dflt).str.size ≤ 5 := by
  show (strB (rwT c.rt)).size ≤ 5
  rw [strB_size]
  exact rwT_len c.rt
 have g2 := drawerToks_fn c
 have g4 := numTok_fn c.to
 repeat' first | refine zzs ?_ | refine zzb ?_ | refine zzk ?_
 refine tr_cond rfl (fun hc => ?_) (fun hc => ?_)
 ·have hk : c.k = 6 := of_decide_eq_true hc
  rw [if_pos hk]
  have g1 := tks_gr hrt
  unfold Tks at g1
  have e2 : eT ([71, 82, 65, 78, 84, 32] ++ rwT c.rt ++ [32, 79, 78]) = .v (.string ((⟨#[71, 82, 65, 78, 84, 32]⟩ : ByteArray) ++ ((List.drop (((eCmd c).getD (0 + 27) E.dflt).int.toNat * 1) rwE).getD 0 E.dflt).str ++ (⟨#[32, 79, 78]⟩ : ByteArray))) := by
   rw [hr2]
   unfold eT
   rw [strB_app', strB_app']
   rfl
  rw [e2] at g1
  have g3 := tokens_TO
  have g5 := optional_fn c.op [87, 73, 84, 72, 32, 79, 80, 84, 73, 79, 78] _ tokens_WITH_OPTION
  have g9 := cat_fn [[wdT [71, 82, 65, 78, 84], wdT (rwT c.rt), wdT [79, 78]], ofT c true, [wdT [84, 79]], [nuT c.to], if c.op = true then [wdT [87, 73, 84, 72], wdT [79, 80, 84, 73, 79, 78]] else []] (Nat.le_of_ble_eq_true rfl) (by split <;> simp <;> omega)
  rw [show ([[wdT [71, 82, 65, 78, 84], wdT (rwT c.rt), wdT [79, 78]], ofT c true, [wdT [84, 79]], [nuT c.to], if c.op = true then [wdT [87, 73, 84, 72], wdT [79, 80, 84, 73, 79, 78]] else []] : List (List Tok)).flatten = [wdT [71, 82, 65, 78, 84], wdT (rwT c.rt), wdT [79, 78]] ++ ofT c true ++ [wdT [84, 79], nuT c.to] ++ (if c.op then [wdT [87, 73, 84, 72], wdT [79, 80, 84, 73, 79, 78]] else []) from by simp] at g9
  repeat' first | refine zzs ?_ | refine zzb ?_ | refine zzk ?_
  refine tr_draw (T := tab) tOk hnt mixedR (lexD (T := tab) rfl ?_ (callVD rfl rfl rfl rfl rfl rfl rfl rfl rfl (g1) (lexD (T := tab) rfl ?_ (callVD rfl rfl rfl rfl rfl rfl rfl rfl rfl (g2) (lexD (T := tab) rfl ?_ (callVD rfl rfl rfl rfl rfl rfl rfl rfl rfl (g3) (lexD (T := tab) rfl ?_ (callD rfl rfl rfl rfl rfl rfl rfl rfl (g4) (lexD (T := tab) rfl ?_ (callVD rfl rfl rfl rfl rfl rfl rfl rfl rfl (g5) (lexD (T := tab) rfl ?_ (callDU rfl rfl rfl rfl rfl rfl rfl rfl rfl (g9) (lexD (T := tab) rfl ?_ (.nil _)))))))))))))) (by first | decide +kernel | kernel_rfl) ?_
  ·rw [hr2]
   simp only [ByteArray.size_append, maxLen, show (⟨#[32, 79, 78]⟩ : ByteArray).size = 3 from rfl, show (⟨#[71, 82, 65, 78, 84, 32]⟩ : ByteArray).size = 6 from rfl]
   exact zza
  ·exact zza
  ·exact zza
  ·exact zza
  ·exact zza
  ·exact zza
  ·exact zza
  exact tr_ret ⟨.inr rfl, _, _, rfl, zzp, rfl⟩
 have k6 : ¬ c.k = 6 := of_decide_eq_false hc
 rw [if_neg k6]
 clear hc
 have g1 := tks_rv hrt
 unfold Tks at g1
 have e2 : eT ([82, 69, 86, 79, 75, 69, 32] ++ rwT c.rt ++ [32, 79, 78]) = .v (.string ((⟨#[82, 69, 86, 79, 75, 69, 32]⟩ : ByteArray) ++ ((List.drop (((eCmd c).getD (0 + 27) E.dflt).int.toNat * 1) rwE).getD 0 E.dflt).str ++ (⟨#[32, 79, 78]⟩ : ByteArray))) := by
  rw [hr2]
  unfold eT
  rw [strB_app', strB_app']
  rfl
 rw [e2] at g1
 have g3 := tokens_FROM
 have g9 := cat_fn [[wdT [82, 69, 86, 79, 75, 69], wdT (rwT c.rt), wdT [79, 78]], ofT c true, [wdT [70, 82, 79, 77]], [nuT c.to]] (Nat.le_of_ble_eq_true rfl) (by simp; omega)
 rw [show ([[wdT [82, 69, 86, 79, 75, 69], wdT (rwT c.rt), wdT [79, 78]], ofT c true, [wdT [70, 82, 79, 77]], [nuT c.to]] : List (List Tok)).flatten = [wdT [82, 69, 86, 79, 75, 69], wdT (rwT c.rt), wdT [79, 78]] ++ ofT c true ++ [wdT [70, 82, 79, 77], nuT c.to] from by simp] at g9
 repeat' first | refine zzs ?_ | refine zzb ?_ | refine zzk ?_
 repeat' first | refine zzs ?_ | refine zzb ?_ | refine zzk ?_
 refine tr_draw (T := tab) tOk hnt mixedR (lexD (T := tab) rfl ?_ (callVD rfl rfl rfl rfl rfl rfl rfl rfl rfl (g1) (lexD (T := tab) rfl ?_ (callVD rfl rfl rfl rfl rfl rfl rfl rfl rfl (g2) (lexD (T := tab) rfl ?_ (callVD rfl rfl rfl rfl rfl rfl rfl rfl rfl (g3) (lexD (T := tab) rfl ?_ (callD rfl rfl rfl rfl rfl rfl rfl rfl (g4) (lexD (T := tab) rfl ?_ (callDU rfl rfl rfl rfl rfl rfl rfl rfl rfl (g9) (lexD (T := tab) rfl ?_ (.nil _)))))))))))) (by first | decide +kernel | kernel_rfl) ?_
 ·rw [hr2]
  simp only [ByteArray.size_append, maxLen, show (⟨#[32, 79, 78]⟩ : ByteArray).size = 3 from rfl, show (⟨#[82, 69, 86, 79, 75, 69, 32]⟩ : ByteArray).size = 7 from rfl]
  exact zza
 ·exact zza
 ·exact zza
 ·exact zza
 ·exact zza
 ·exact zza
 exact tr_ret ⟨.inr rfl, _, _, rfl, zzp, rfl⟩
end Go.Proofs.YtjabmeffgbaglaaDoor
namespace Go.Proofs.YtjabmeffgbaglaaDoor
open Go Go.RowKit Go.Proofs.YtjabmeffgbaglaaDoor.Ab
set_option linter.unusedSimpArgs false
set_option linter.unusedVariables false
def gY : List (Nat × List E) := [(4, fsE), (5, acE), (3, spE), (6, mkE), (0, kwE), (1, rwE), (2, awE)]
set_option maxRecDepth 10000 in
set_option maxHeartbeats 2000000 in
theorem commandTokens_fn (c : Cmd) (h : c.ok) : FnG Tryd.prog 5 (gY) [.agg (.es (eCmd c))] (rKE (cwR c)) := by
 refine fn_introG (T := tab) tOk Tryd.func5 rfl (by kernel_rfl) (by simp [Tryd.ntmps5]) ?_
 intro X hX
 have hnt : X.nt = 17 := hX
 clear hX
 have f29 : 0 + 29 ≤ (Cs.es (eCmd c)).len := Nat.le_refl 29
 have h1 := cFault_fn c h
 have hok := fun e => cm_ok h e
 unfold cwR
 generalize cmF c = e at *
 repeat' first | refine zzs ?_ | refine zzb ?_ | refine zzk ?_
 first | refine zzr hnt rfl ?_ ?_ | refine zzd hnt rfl ?_ ?_
 ·exact zza
 repeat' first | refine zzs ?_ | refine zzb ?_ | refine zzk ?_
 refine tr_region (zzx hnt rfl ?_ (callV rfl rfl rfl rfl rfl rfl rfl hnt rfl (h1) (zzx hnt rfl ?_ (Lex.nil _)))) ?_
 ·exact zza
 ·exact zza
 repeat' first | refine zzs ?_ | refine zzr hnt rfl ?_ ?_ | refine zzd hnt rfl ?_ ?_ | refine zzb ?_ | refine zzk ?_
 ·exact zzt
 repeat' first | refine zzs ?_ | refine zzb ?_ | refine zzk ?_
 refine tr_cond rfl (fun hc => ?_) (fun hc => ?_)
 ·simp only [zz1, zz2, zz3, zz4, zz5, zz6, zz7, zz8] at hc
  rw [if_pos hc]
  repeat' first | refine zzs ?_ | refine zzr hnt rfl ?_ ?_ | refine zzd hnt rfl ?_ ?_ | refine zzb ?_ | refine zzk ?_
  ·exact zzt
  exact tr_ret ⟨.inr rfl, _, _, rfl, zzp, rfl⟩
 simp only [zz1, zz2, zz3, zz4, zz5, zz6, zz7, zz8] at hc
 rw [if_neg (not_not_intro hc)]
 obtain ⟨k1, k2⟩ := hok hc
 have h2 := commandToks_fn c k1 k2
 repeat' first | refine zzs ?_ | refine zzb ?_ | refine zzk ?_
 refine tr_region (zzx hnt rfl ?_ (callV rfl rfl rfl rfl rfl rfl rfl hnt rfl (h2) (zzx hnt rfl ?_ (Lex.nil _)))) ?_
 ·exact zza
 ·exact zza
 have hml : ((cmT c).map eTok).length = (cmT c).length := List.length_map ..
 repeat' first | refine zzs ?_ | refine zzr hnt rfl ?_ ?_ | refine zzd hnt rfl ?_ ?_ | refine zzb ?_ | refine zzk ?_
 ·exact zzt
 repeat' first | refine zzs ?_ | refine zzb ?_ | refine zzk ?_
 refine tr_cond rfl (fun hc => ?_) (fun hc => ?_)
 ·simp only [zz1, zz2, zz3, zz4, zz5, zz6, zz7, zz8] at hc
  (try simp only [hml] at hc)
  (try simp only [zz1, zz2, zz3, zz4, zz5, zz6, zz7, zz8] at hc)
  rw [if_pos (by omega)]
  repeat' first | refine zzs ?_ | refine zzr hnt rfl ?_ ?_ | refine zzd hnt rfl ?_ ?_ | refine zzb ?_ | refine zzk ?_
  ·exact zzt
  exact tr_ret ⟨.inr rfl, _, _, rfl, zzp, rfl⟩
 simp only [zz1, zz2, zz3, zz4, zz5, zz6, zz7, zz8] at hc
 (try simp only [hml] at hc)
 (try simp only [zz1, zz2, zz3, zz4, zz5, zz6, zz7, zz8] at hc)
 rw [if_neg (by omega)]
 repeat' first | refine zzs ?_ | refine zzr hnt rfl ?_ ?_ | refine zzd hnt rfl ?_ ?_ | refine zzb ?_ | refine zzk ?_
 ·exact zzt
 exact tr_ret ⟨.inr rfl, _, _, rfl, zzp, rfl⟩
theorem cwR_len (c : Cmd) : (cwR c).1.length ≤ 100 := by
 unfold cwR
 split
 ·exact Nat.zero_le _
 split
 ·exact Nat.zero_le _
 ·rename_i h1
  exact Nat.le_of_not_lt h1
set_option maxRecDepth 10000 in
set_option maxHeartbeats 2000000 in
theorem stmtShows_fn (c : Cmd) (h : c.ok) : FnG Tryd.prog 3 (gY) [.agg (.es (eCmd c))] (.v (.bool true)) := by
 refine fn_introG (T := tab) tOk Tryd.func3 rfl (by kernel_rfl) (by simp [Tryd.ntmps3]) ?_
 intro X hX
 have hnt : X.nt = 25 := hX
 clear hX
 have f29 : 0 + 29 ≤ (Cs.es (eCmd c)).len := Nat.le_refl 29
 have h1 := stmtShow_fn c h
 have h2 := commandTokens_fn c h
 have hl := cwR_len c
 have h3 := sameTokens_fn (cwR c).1 (by omega)
 unfold rKE at h1 h2
 generalize cwR c = q at *
 obtain ⟨s, e⟩ := q
 dsimp only at h1 h2 h3
 repeat' first | refine zzs ?_ | refine zzr hnt rfl ?_ ?_ | refine zzd hnt rfl ?_ ?_ | refine zzb ?_ | refine zzk ?_
 ·exact zzt
 repeat' first | refine zzs ?_ | refine zzb ?_ | refine zzk ?_
 refine tr_region (zzx hnt rfl ?_ (callV rfl rfl rfl rfl rfl rfl rfl hnt rfl (h1) (zzx hnt rfl ?_ (Lex.nil _)))) ?_
 ·exact zza
 ·exact zza
 repeat' first | refine zzs ?_ | refine zzb ?_ | refine zzk ?_
 refine tr_region (zzx hnt rfl ?_ (callV rfl rfl rfl rfl rfl rfl rfl hnt rfl (h2) (zzx hnt rfl ?_ (Lex.nil _)))) ?_
 ·exact zza
 ·exact zza
 repeat' first | refine zzs ?_ | refine zzb ?_ | refine zzk ?_
 refine tr_region (zzx hnt rfl ?_ (callG rfl rfl rfl rfl rfl rfl hnt rfl (fun hq => ?_) (fun hq => h3) (zzx hnt rfl ?_ (Lex.nil _)))) ?_
 ·exact zza
 ·exact zza
 ·exact zza
 refine tr_ret ⟨.inr rfl, _, _, rfl, by trivial, ?_⟩
 simp
 rfl
end Go.Proofs.YtjabmeffgbaglaaDoor
