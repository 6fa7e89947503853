/- Expressions as tokens: expr.show. No condition. -/
import Derived.Test.YtjabmeffgbaglaaDoorTXsA
namespace Go.Proofs.YtjabmeffgbaglaaDoor
open Go Go.RowKit Go.Proofs.YtjabmeffgbaglaaDoor.Ab
set_option linter.unusedSimpArgs false
set_option linter.unusedVariables false
def eTks (l : List Tok) : E := .sl (l.map eTok)
def msP (ac : List Tok) : List (Nat × Blk) := [(900000, ⟨0, .box (.ds [.own 900001 0]), 0⟩), (900001, ⟨0, .row 4 (ac.map eTok), 0⟩)]
set_option maxRecDepth 10000 in
set_option maxHeartbeats 2000000 in
theorem put_fn (ac l : List Tok) (hl : ac.length + l.length ≤ 100000) : FnH Tryd.prog 89 [] (msP ac) [.one (.e (eTks l)), .one (.ptr 900000 0 0)] (.tup []) (msP (ac ++ l)) := by
 refine fn_introH (T := tab) tOk Tryd.func89 rfl (by kernel_rfl) (by simp [Tryd.ntmps89]) rfl rfl ?_
 intro X hX
 have hnt : X.nt = 6 := hX
 clear hX
 have la : (ac.map eTok).length = ac.length := List.length_map ..
 have ll : (l.map eTok).length = l.length := List.length_map ..
 have hq1 : (ac.map eTok).length + (l.map eTok).length ≤ maxLen := by rw [la, ll]; simp only [maxLen]; omega
 have hq2 : ((ac.map eTok).length + (l.map eTok).length) * 40 ≤ 140737488355328 := by rw [la, ll]; omega
 have h4 : ∀ cs ∈ l.map eTok, cs.length = 4 := fun cs hc => by
  obtain ⟨q, _, rfl⟩ := List.mem_map.1 hc
  rfl
 repeat' first | refine zzs ?_ | refine zzb ?_ | refine zzk ?_
 first | refine zzr hnt rfl ?_ ?_ | refine zzd hnt rfl ?_ ?_
 ·exact zza
 exact ⟨.inl rfl, _, _, _, rfl, trivial, rfl, fun X => le_of (ad := []) ⟨trivial, ⟨rfl, rfl, rfl, rfl, rfl⟩, trivial⟩ (memOk_box rfl rfl zzi (memOk_row rfl rfl (List.map_append ..).symm trivial))⟩
def brk (least : Int) (p : Int × List Tok) : List Tok := if lvF p.1 < least then sgT [40] :: p.2 ++ [sgT [41]] else p.2
def left (op : Int) : Int := if lvF op = 4 then 5 else lvF op
def shJ (op : Int) (v : Val) (n : Byt) (ks : List (Int × List Tok)) : List Tok :=
 if op = 1 then [ltT v] else if op = 2 then [⟨1, n, 0, 0⟩]
 else if op = 3 then sgT [45] :: brk 8 (ks.getD 0 (0, []))
 else if op = 4 then wdT [78, 79, 84] :: brk 3 (ks.getD 0 (0, []))
 else if op = 17 then brk 5 (ks.getD 0 (0, [])) ++ [wdT [73, 83], wdT [78, 85, 76, 76]]
 else if op = 18 then [wdT [76, 69, 78, 71, 84, 72], sgT [40]] ++ (ks.getD 0 (0, [])).2 ++ [sgT [41]]
 else if op = 20 then [wdT [67, 79, 65, 76, 69, 83, 67, 69], sgT [40]] ++ (ks.getD 0 (0, [])).2 ++ [sgT [44]] ++ (ks.getD 1 (0, [])).2 ++ [sgT [41]]
 else brk (left op) (ks.getD 0 (0, [])) ++ [mkS op] ++ brk (lvF op + 1) (ks.getD 1 (0, []))
mutual
def shX : Ex → List Tok
 | .mk op v n ar => shJ op v n (shL ar)
def shL : List Ex → List (Int × List Tok)
 | [] => []
 | .mk op v n ar :: r => (op, shX (.mk op v n ar)) :: shL r
end
theorem shX_eq (x : Ex) : shX x = shJ x.op x.v x.n (shL x.ar) := by cases x; rw [shX]; rfl
theorem shL_map : ∀ l : List Ex, shL l = l.map fun x => (x.op, shX x)
 | [] => rfl
 | .mk op v n ar :: r => by rw [shL, shL_map r]; rfl
def shF (x : Ex) (least : Int) : List Tok := brk least (x.op, shX x)
theorem brk_len (least : Int) (p : Int × List Tok) : (brk least p).length ≤ p.2.length + 2 := by
 unfold brk
 split
 ·simp only [List.length_append, List.length_cons, List.length_nil]; omega
 ·omega
theorem shJ_len (op : Int) (v : Val) (n : Byt) (ks : List (Int × List Tok)) : (shJ op v n ks).length ≤ (ks.getD 0 (0, [])).2.length + (ks.getD 1 (0, [])).2.length + 5 := by
 have b1 := brk_len 8 (ks.getD 0 (0, []))
 have b2 := brk_len 3 (ks.getD 0 (0, []))
 have b3 := brk_len 5 (ks.getD 0 (0, []))
 have b4 := brk_len (left op) (ks.getD 0 (0, []))
 have b5 := brk_len (lvF op + 1) (ks.getD 1 (0, []))
 unfold shJ
 repeat' split
 all_goals simp only [List.length_append, List.length_cons, List.length_nil]
 all_goals omega
theorem shX_len : ∀ (m : Nat) (x : Ex), nodes x ≤ m → x.ar.length ≤ 2 ∨ True → (shX x).length ≤ 5 * nodes x
 | 0, x, h, _ => absurd h (by have := nodes_pos x; omega)
 | m + 1, .mk op v n ar, h, _ => by
  have hn := nodes_eq (.mk op v n ar)
  have hj := shJ_len op v n (shL ar)
  rw [shX]
  have hn : nodes (.mk op v n ar) = 1 + nodesL ar := hn
  have hkid : ∀ a ∈ ar, (shX a).length ≤ 5 * nodes a := fun a ha => shX_len m a (kid_nodes h ha) (.inr trivial)
  rw [shL_map] at hj
  rcases ar with _ | ⟨a, _ | ⟨b, r⟩⟩
  ·have hj : _ ≤ 0 + 0 + 5 := hj
   rw [shL_map]
   omega
  ·have ha := hkid a (by simp)
   have hj : _ ≤ (shX a).length + 0 + 5 := hj
   have : nodesL [a] = nodes a + 0 := rfl
   rw [shL_map]
   omega
  ·have ha := hkid a (by simp)
   have hb := hkid b (by simp)
   have hj : _ ≤ (shX a).length + (shX b).length + 5 := hj
   have : nodesL (a :: b :: r) = nodes a + (nodes b + nodesL r) := rfl
   rw [shL_map]
   omega
theorem ver_upd1 {m : Mem} {id : Nat} {b : Blk} (h : (m id).map Blk.ver = some b.ver) : ∀ i, verOf (updM m [(id, b)]) i = verOf m i := fun i => by
 show verOf (upd m id (some b)) i = _
 unfold verOf
 by_cases hi : i = id
 ·subst hi
  rw [upd_same]
  cases hm : m i with
  | none => rw [hm] at h; cases h
  | some b0 => rw [hm] at h; exact (Option.some.inj h).symm
 ·rw [upd_ne _ _ hi]
theorem node_ok2 {x : Ex} (h : nodeF x = 0) : 1 ≤ x.op ∧ x.op ≤ 20 ∧ (x.ar.length : Int) = wantF x.op ∧ (x.op = 1 → chk x.v = 0 ∧ 0 ≤ x.v.i) := by
 have hr : ¬ (x.op < 1 ∨ 20 < x.op) := fun e => by
  unfold nodeF at h
  rw [if_pos e] at h
  cases h
 obtain ⟨k1, _, _, _, k5⟩ := (nodeF_zero (by omega) (by omega)).2.1 h
 exact ⟨by omega, by omega, k1, k5⟩
theorem nd_zero2 {x : Ex} (h : ndF x = 0) : nodeF x = 0 ∧ ∀ a ∈ x.ar, ndF a = 0 := by
 rw [ndF_eq] at h
 split at h
 ·contradiction
 ·rename_i hn
  refine ⟨Classical.not_not.1 hn, ?_⟩
  have key : ∀ l : List Ex, ndL l = 0 → ∀ a ∈ l, ndF a = 0 := by
   intro l
   induction l with
   | nil => intro _ a ha; cases ha
   | cons b r ih =>
    intro hl a ha
    rw [ndL] at hl
    split at hl
    ·contradiction
    ·rename_i hb
     rcases List.mem_cons.1 ha with rfl | ha
     ·exact Classical.not_not.1 hb
     ·exact ih hl a ha
  exact key x.ar h
theorem argsData1 {m : Mem} {ρ : Rn} {dom : Nat → Bool} {d x : D} {ds bs : List D} {p : Nat × Blk} (h : dataD m d = some (x, [p])) (k : ArgsH m ρ dom ds bs []) : ArgsH m ρ dom (d :: ds) (x :: bs) [p] := .data h k
theorem eEx_mk (op : Int) (v : Val) (n : Byt) (ar : List Ex) : eEx (.mk op v n ar) = [eI op, eI v.k, eI v.i, eQ v.b, eT v.t, eT n, .sl (ar.map eEx)] := by rw [eEx, eExs_map]
set_option maxRecDepth 10000 in
set_option maxHeartbeats 2000000 in
theorem show_lit (least : Int) (v : Val) (n : Byt) (hl : least ≤ lvF 1) : FnD Tryd.prog 78 [.agg (.es (eEx (.mk 1 v n []))), .one (.e (eI least))] (.one (.e (eTks [ltT v]))) := by
 refine fn_intro (T := tab) tOk Tryd.func78 rfl (by kernel_rfl) (by simp [Tryd.ntmps78]) ?_
 intro X hX
 have hnt : X.nt = 167 := hX
 clear hX
 rw [eEx_mk]
 repeat' first | refine zzs ?_ | refine zzb ?_ | refine zzk ?_
 first | refine zzr hnt rfl ?_ ?_ | refine zzd hnt rfl ?_ ?_
 ·exact zzt
 repeat' first | refine zzs ?_ | refine zzb ?_ | refine zzk ?_
 first | refine zzr hnt rfl ?_ ?_ | refine zzd hnt rfl ?_ ?_
 ·exact zzt
 repeat' first | refine zzs ?_ | refine zzb ?_ | refine zzk ?_
 first | refine zzr hnt rfl ?_ ?_ | refine zzd hnt rfl ?_ ?_
 ·exact zzt
 refine tr_le (s' := St.of [(1, .one (.e (eI least))), (2, .one (.ptr 2 0 0)), (5, .one (.ptr 5 0 0)), (6, .one (.clo 89 [(5, 0, 0)]))] [(2, ⟨0, .box (.es [eI 1, eI v.k, eI v.i, eQ v.b, eT v.t, eT n, .sl (([]).map eEx)]), 0⟩), (5, ⟨0, .box (.ds [.own 3000 0]), 0⟩), (3000, ⟨0, .row 4 ([].map eTok), 0⟩)]) (le_of (ad := [3000]) ⟨zzl, zzl, zzl, zzl, trivial⟩ (memOk_box rfl rfl rfl (memOk_box rfl rfl zzi (memOk_new rfl (by decide) trivial)))) ?_
 have hlv := level_fn 1 (by decide) (by decide)
 repeat' first | refine zzs ?_ | refine zzb ?_ | refine zzk ?_
 refine tr_region (zzx hnt rfl ?_ (call rfl rfl rfl rfl rfl rfl rfl hnt (hlv) (zzx hnt rfl ?_ (Lex.nil _)))) ?_
 ·exact zza
 ·exact zza
 repeat' first | refine zzs ?_ | refine zzb ?_ | refine zzk ?_
 refine tr_cond rfl (fun hc => ?_) (fun hc => ?_)
 ·exact absurd (of_decide_eq_true hc) (by omega)
 repeat' first | refine zzs ?_ | refine zzb ?_ | refine zzk ?_
 refine tr_region (zzx hnt rfl ?_ (call rfl rfl rfl rfl rfl rfl rfl hnt (hlv) (zzx hnt rfl ?_ (Lex.nil _)))) ?_
 ·exact zza
 ·exact zza
 refine tr_le (s' := St.of [(7, .one (.e (eI (lvF 1)))), (2, .one (.ptr 2 0 0)), (5, .one (.ptr 5 0 0)), (6, .one (.clo 89 [(5, 0, 0)]))] [(2, ⟨0, .box (.es [eI 1, eI v.k, eI v.i, eQ v.b, eT v.t, eT n, .sl (([]).map eEx)]), 0⟩), (5, ⟨0, .box (.ds [.own 3000 0]), 0⟩), (3000, ⟨0, .row 4 (([]).map eTok), 0⟩)]) (le_of (ad := []) ⟨zzl, zzl, zzl, zzl, trivial⟩ (memOk_box rfl rfl rfl (memOk_box rfl rfl zzi (memOk_row rfl rfl rfl trivial)))) ?_
 repeat' (first | refine tr_seq ?_ | refine tr_block ?_ | refine tr_skip ?_ | refine reg (T := tab) tOk hnt rfl (by exact zzt) ?_ | refine regD (T := tab) tOk mixedR hnt rfl (by first | decide +kernel | kernel_rfl) (by exact zzt) ?_ | refine tr_cond rfl (fun hc => ?_) (fun hc => absurd (show true = false from hc) Bool.noConfusion) | refine tr_cond rfl (fun hc => absurd (show false = true from hc) Bool.noConfusion) (fun hc => ?_))
 have h1 := (literal_fn v)
 have hpu := put_fn ([]) ([(ltT v)]) (by first | (simp; done) | (simp; omega))
 repeat' first | refine zzs ?_ | refine zzb ?_ | refine zzk ?_
 refine tr_region (zzx hnt rfl ?_ (call rfl rfl rfl rfl rfl rfl rfl hnt (h1) (zzx hnt rfl ?_ (callH [(900000, 5)] [(900001, 3000)] [(900001, 3000)] rfl rfl rfl rfl (hpu) (by repeat' first | exact .nil | refine .lent rfl rfl rfl ?_ | refine argsData1 rfl ?_ | refine .data rfl ?_) (ver_upd1 rfl) rfl rfl hnt rfl rfl zzi zzi (zzx hnt rfl ?_ (Lex.nil _)))))) ?_
 ·exact zza
 ·exact zza
 ·exact zza
 repeat' first | refine zzs ?_ | refine zzr hnt rfl ?_ ?_ | refine zzd hnt rfl ?_ ?_ | refine zzb ?_ | refine zzk ?_
 ·exact zzt
 exact tr_ret ⟨.inr rfl, _, _, rfl, trivial, rfl⟩
set_option maxRecDepth 10000 in
set_option maxHeartbeats 2000000 in
theorem show_col (least : Int) (v : Val) (n : Byt) (hl : least ≤ lvF 2) : FnD Tryd.prog 78 [.agg (.es (eEx (.mk 2 v n []))), .one (.e (eI least))] (.one (.e (eTks [⟨1, n, 0, 0⟩]))) := by
 refine fn_intro (T := tab) tOk Tryd.func78 rfl (by kernel_rfl) (by simp [Tryd.ntmps78]) ?_
 intro X hX
 have hnt : X.nt = 167 := hX
 clear hX
 rw [eEx_mk]
 repeat' first | refine zzs ?_ | refine zzb ?_ | refine zzk ?_
 first | refine zzr hnt rfl ?_ ?_ | refine zzd hnt rfl ?_ ?_
 ·exact zzt
 repeat' first | refine zzs ?_ | refine zzb ?_ | refine zzk ?_
 first | refine zzr hnt rfl ?_ ?_ | refine zzd hnt rfl ?_ ?_
 ·exact zzt
 repeat' first | refine zzs ?_ | refine zzb ?_ | refine zzk ?_
 first | refine zzr hnt rfl ?_ ?_ | refine zzd hnt rfl ?_ ?_
 ·exact zzt
 refine tr_le (s' := St.of [(1, .one (.e (eI least))), (2, .one (.ptr 2 0 0)), (5, .one (.ptr 5 0 0)), (6, .one (.clo 89 [(5, 0, 0)]))] [(2, ⟨0, .box (.es [eI 2, eI v.k, eI v.i, eQ v.b, eT v.t, eT n, .sl (([]).map eEx)]), 0⟩), (5, ⟨0, .box (.ds [.own 3000 0]), 0⟩), (3000, ⟨0, .row 4 ([].map eTok), 0⟩)]) (le_of (ad := [3000]) ⟨zzl, zzl, zzl, zzl, trivial⟩ (memOk_box rfl rfl rfl (memOk_box rfl rfl zzi (memOk_new rfl (by decide) trivial)))) ?_
 have hlv := level_fn 2 (by decide) (by decide)
 repeat' first | refine zzs ?_ | refine zzb ?_ | refine zzk ?_
 refine tr_region (zzx hnt rfl ?_ (call rfl rfl rfl rfl rfl rfl rfl hnt (hlv) (zzx hnt rfl ?_ (Lex.nil _)))) ?_
 ·exact zza
 ·exact zza
 repeat' first | refine zzs ?_ | refine zzb ?_ | refine zzk ?_
 refine tr_cond rfl (fun hc => ?_) (fun hc => ?_)
 ·exact absurd (of_decide_eq_true hc) (by omega)
 repeat' first | refine zzs ?_ | refine zzb ?_ | refine zzk ?_
 refine tr_region (zzx hnt rfl ?_ (call rfl rfl rfl rfl rfl rfl rfl hnt (hlv) (zzx hnt rfl ?_ (Lex.nil _)))) ?_
 ·exact zza
 ·exact zza
 refine tr_le (s' := St.of [(7, .one (.e (eI (lvF 2)))), (2, .one (.ptr 2 0 0)), (5, .one (.ptr 5 0 0)), (6, .one (.clo 89 [(5, 0, 0)]))] [(2, ⟨0, .box (.es [eI 2, eI v.k, eI v.i, eQ v.b, eT v.t, eT n, .sl (([]).map eEx)]), 0⟩), (5, ⟨0, .box (.ds [.own 3000 0]), 0⟩), (3000, ⟨0, .row 4 (([]).map eTok), 0⟩)]) (le_of (ad := []) ⟨zzl, zzl, zzl, zzl, trivial⟩ (memOk_box rfl rfl rfl (memOk_box rfl rfl zzi (memOk_row rfl rfl rfl trivial)))) ?_
 repeat' (first | refine tr_seq ?_ | refine tr_block ?_ | refine tr_skip ?_ | refine reg (T := tab) tOk hnt rfl (by exact zzt) ?_ | refine regD (T := tab) tOk mixedR hnt rfl (by first | decide +kernel | kernel_rfl) (by exact zzt) ?_ | refine tr_cond rfl (fun hc => ?_) (fun hc => absurd (show true = false from hc) Bool.noConfusion) | refine tr_cond rfl (fun hc => absurd (show false = true from hc) Bool.noConfusion) (fun hc => ?_))
 have hpu := put_fn [] ([⟨1, n, 0, 0⟩]) (by simp)
 repeat' first | refine zzs ?_ | refine zzb ?_ | refine zzk ?_
 refine tr_region (zzx hnt rfl ?_ (callH [(900000, 5)] [(900001, 3000)] [(900001, 3000)] rfl rfl rfl rfl (hpu) (by repeat' first | exact .nil | refine .lent rfl rfl rfl ?_ | refine argsData1 rfl ?_ | refine .data rfl ?_) (ver_upd1 rfl) rfl rfl hnt rfl rfl zzi zzi (zzx hnt rfl ?_ (Lex.nil _)))) ?_
 ·exact zza
 ·exact zza
 repeat' first | refine zzs ?_ | refine zzr hnt rfl ?_ ?_ | refine zzd hnt rfl ?_ ?_ | refine zzb ?_ | refine zzk ?_
 ·exact zzt
 exact tr_ret ⟨.inr rfl, _, _, rfl, trivial, rfl⟩
set_option maxRecDepth 10000 in
set_option maxHeartbeats 2000000 in
theorem show_neg (least : Int) (v : Val) (n : Byt) (a : Ex) (iha : ∀ l : Int, FnD Tryd.prog 78 [.agg (.es (eEx a)), .one (.e (eI l))] (.one (.e (eTks (shF a l))))) (lena : ∀ l : Int, (shF a l).length ≤ 1000) (hl : least ≤ lvF 3) : FnD Tryd.prog 78 [.agg (.es (eEx (.mk 3 v n [a]))), .one (.e (eI least))] (.one (.e (eTks ([(sgT [45])] ++ shF a (lvF 3))))) := by
 refine fn_intro (T := tab) tOk Tryd.func78 rfl (by kernel_rfl) (by simp [Tryd.ntmps78]) ?_
 intro X hX
 have hnt : X.nt = 167 := hX
 clear hX
 have fa : 0 + 7 ≤ (Cs.es (eEx a)).len := by have := ex7 a; show 0 + 7 ≤ (eEx a).length; omega
 have ga : (eEx a).length = 7 := ex7 a
 have na := lena ((lvF 3))
 have q0 : (0 : Int) < ((1 : Nat) : Int) := by decide
 rw [eEx_mk]
 repeat' first | refine zzs ?_ | refine zzb ?_ | refine zzk ?_
 first | refine zzr hnt rfl ?_ ?_ | refine zzd hnt rfl ?_ ?_
 ·exact zzt
 repeat' first | refine zzs ?_ | refine zzb ?_ | refine zzk ?_
 first | refine zzr hnt rfl ?_ ?_ | refine zzd hnt rfl ?_ ?_
 ·exact zzt
 repeat' first | refine zzs ?_ | refine zzb ?_ | refine zzk ?_
 first | refine zzr hnt rfl ?_ ?_ | refine zzd hnt rfl ?_ ?_
 ·exact zzt
 refine tr_le (s' := St.of [(1, .one (.e (eI least))), (2, .one (.ptr 2 0 0)), (5, .one (.ptr 5 0 0)), (6, .one (.clo 89 [(5, 0, 0)]))] [(2, ⟨0, .box (.es [eI 3, eI v.k, eI v.i, eQ v.b, eT v.t, eT n, .sl ((([a])).map eEx)]), 0⟩), (5, ⟨0, .box (.ds [.own 3000 0]), 0⟩), (3000, ⟨0, .row 4 ([].map eTok), 0⟩)]) (le_of (ad := [3000]) ⟨zzl, zzl, zzl, zzl, trivial⟩ (memOk_box rfl rfl rfl (memOk_box rfl rfl zzi (memOk_new rfl (by decide) trivial)))) ?_
 have hlv := level_fn 3 (by decide) (by decide)
 repeat' first | refine zzs ?_ | refine zzb ?_ | refine zzk ?_
 refine tr_region (zzx hnt rfl ?_ (call rfl rfl rfl rfl rfl rfl rfl hnt (hlv) (zzx hnt rfl ?_ (Lex.nil _)))) ?_
 ·exact zza
 ·exact zza
 repeat' first | refine zzs ?_ | refine zzb ?_ | refine zzk ?_
 refine tr_cond rfl (fun hc => ?_) (fun hc => ?_)
 ·exact absurd (of_decide_eq_true hc) (by omega)
 repeat' first | refine zzs ?_ | refine zzb ?_ | refine zzk ?_
 refine tr_region (zzx hnt rfl ?_ (call rfl rfl rfl rfl rfl rfl rfl hnt (hlv) (zzx hnt rfl ?_ (Lex.nil _)))) ?_
 ·exact zza
 ·exact zza
 refine tr_le (s' := St.of [(7, .one (.e (eI (lvF 3)))), (2, .one (.ptr 2 0 0)), (5, .one (.ptr 5 0 0)), (6, .one (.clo 89 [(5, 0, 0)]))] [(2, ⟨0, .box (.es [eI 3, eI v.k, eI v.i, eQ v.b, eT v.t, eT n, .sl ((([a])).map eEx)]), 0⟩), (5, ⟨0, .box (.ds [.own 3000 0]), 0⟩), (3000, ⟨0, .row 4 (([]).map eTok), 0⟩)]) (le_of (ad := []) ⟨zzl, zzl, zzl, zzl, trivial⟩ (memOk_box rfl rfl rfl (memOk_box rfl rfl zzi (memOk_row rfl rfl rfl trivial)))) ?_
 repeat' (first | refine tr_seq ?_ | refine tr_block ?_ | refine tr_skip ?_ | refine reg (T := tab) tOk hnt rfl (by exact zzt) ?_ | refine regD (T := tab) tOk mixedR hnt rfl (by first | decide +kernel | kernel_rfl) (by exact zzt) ?_ | refine tr_cond rfl (fun hc => ?_) (fun hc => absurd (show true = false from hc) Bool.noConfusion) | refine tr_cond rfl (fun hc => absurd (show false = true from hc) Bool.noConfusion) (fun hc => ?_))
 have h1 := (signT_fn [45])
 have hpu := put_fn ([]) ([(sgT [45])]) (by first | (simp; done) | (simp; omega))
 repeat' first | refine zzs ?_ | refine zzb ?_ | refine zzk ?_
 refine tr_region (zzx hnt rfl ?_ (call rfl rfl rfl rfl rfl rfl rfl hnt (h1) (zzx hnt rfl ?_ (callH [(900000, 5)] [(900001, 3000)] [(900001, 3000)] rfl rfl rfl rfl (hpu) (by repeat' first | exact .nil | refine .lent rfl rfl rfl ?_ | refine argsData1 rfl ?_ | refine .data rfl ?_) (ver_upd1 rfl) rfl rfl hnt rfl rfl zzi zzi (zzx hnt rfl ?_ (Lex.nil _)))))) ?_
 ·exact zza
 ·exact zza
 ·exact zza
 refine tr_le (s' := St.of [(7, .one (.e (eI (lvF 3)))), (2, .one (.ptr 2 0 0)), (5, .one (.ptr 5 0 0)), (6, .one (.clo 89 [(5, 0, 0)]))] [(2, ⟨0, .box (.es [eI 3, eI v.k, eI v.i, eQ v.b, eT v.t, eT n, .sl ((([a])).map eEx)]), 0⟩), (5, ⟨0, .box (.ds [.own 3000 0]), 0⟩), (3000, ⟨0, .row 4 ((([(sgT [45])])).map eTok), 0⟩)]) (le_of (ad := []) ⟨zzl, zzl, zzl, zzl, trivial⟩ (memOk_box rfl rfl rfl (memOk_box rfl rfl zzi (memOk_row rfl rfl rfl trivial)))) ?_
 have hk := iha ((lvF 3))
 rw [← exAll a] at hk
 have hpu := put_fn (([(sgT [45])])) (shF a ((lvF 3))) (by first | (simp; done) | (simp; omega))
 repeat' first | refine zzs ?_ | refine zzb ?_ | refine zzk ?_
 refine tr_region (zzx hnt rfl ?_ (call rfl rfl rfl rfl rfl rfl rfl hnt (hk) (zzx hnt rfl ?_ (callH (us := []) [(900000, 5)] [(900001, 3000)] [(900001, 3000)] rfl rfl rfl rfl (hpu) (by repeat' first | exact .nil | refine .lent rfl rfl rfl ?_ | refine .data rfl ?_) (fun _ => rfl) rfl rfl hnt rfl rfl zzi zzi (zzx hnt rfl ?_ (Lex.nil _)))))) ?_
 ·exact zza
 ·exact zza
 ·exact zza
 repeat' first | refine zzs ?_ | refine zzr hnt rfl ?_ ?_ | refine zzd hnt rfl ?_ ?_ | refine zzb ?_ | refine zzk ?_
 ·exact zzt
 exact tr_ret ⟨.inr rfl, _, _, rfl, trivial, rfl⟩
set_option maxRecDepth 10000 in
set_option maxHeartbeats 2000000 in
theorem show_not (least : Int) (v : Val) (n : Byt) (a : Ex) (iha : ∀ l : Int, FnD Tryd.prog 78 [.agg (.es (eEx a)), .one (.e (eI l))] (.one (.e (eTks (shF a l))))) (lena : ∀ l : Int, (shF a l).length ≤ 1000) (hl : least ≤ lvF 4) : FnD Tryd.prog 78 [.agg (.es (eEx (.mk 4 v n [a]))), .one (.e (eI least))] (.one (.e (eTks ([(wdT [78,79,84])] ++ shF a (lvF 4))))) := by
 refine fn_intro (T := tab) tOk Tryd.func78 rfl (by kernel_rfl) (by simp [Tryd.ntmps78]) ?_
 intro X hX
 have hnt : X.nt = 167 := hX
 clear hX
 have fa : 0 + 7 ≤ (Cs.es (eEx a)).len := by have := ex7 a; show 0 + 7 ≤ (eEx a).length; omega
 have ga : (eEx a).length = 7 := ex7 a
 have na := lena ((lvF 4))
 have q0 : (0 : Int) < ((1 : Nat) : Int) := by decide
 rw [eEx_mk]
 repeat' first | refine zzs ?_ | refine zzb ?_ | refine zzk ?_
 first | refine zzr hnt rfl ?_ ?_ | refine zzd hnt rfl ?_ ?_
 ·exact zzt
 repeat' first | refine zzs ?_ | refine zzb ?_ | refine zzk ?_
 first | refine zzr hnt rfl ?_ ?_ | refine zzd hnt rfl ?_ ?_
 ·exact zzt
 repeat' first | refine zzs ?_ | refine zzb ?_ | refine zzk ?_
 first | refine zzr hnt rfl ?_ ?_ | refine zzd hnt rfl ?_ ?_
 ·exact zzt
 refine tr_le (s' := St.of [(1, .one (.e (eI least))), (2, .one (.ptr 2 0 0)), (5, .one (.ptr 5 0 0)), (6, .one (.clo 89 [(5, 0, 0)]))] [(2, ⟨0, .box (.es [eI 4, eI v.k, eI v.i, eQ v.b, eT v.t, eT n, .sl ((([a])).map eEx)]), 0⟩), (5, ⟨0, .box (.ds [.own 3000 0]), 0⟩), (3000, ⟨0, .row 4 ([].map eTok), 0⟩)]) (le_of (ad := [3000]) ⟨zzl, zzl, zzl, zzl, trivial⟩ (memOk_box rfl rfl rfl (memOk_box rfl rfl zzi (memOk_new rfl (by decide) trivial)))) ?_
 have hlv := level_fn 4 (by decide) (by decide)
 repeat' first | refine zzs ?_ | refine zzb ?_ | refine zzk ?_
 refine tr_region (zzx hnt rfl ?_ (call rfl rfl rfl rfl rfl rfl rfl hnt (hlv) (zzx hnt rfl ?_ (Lex.nil _)))) ?_
 ·exact zza
 ·exact zza
 repeat' first | refine zzs ?_ | refine zzb ?_ | refine zzk ?_
 refine tr_cond rfl (fun hc => ?_) (fun hc => ?_)
 ·exact absurd (of_decide_eq_true hc) (by omega)
 repeat' first | refine zzs ?_ | refine zzb ?_ | refine zzk ?_
 refine tr_region (zzx hnt rfl ?_ (call rfl rfl rfl rfl rfl rfl rfl hnt (hlv) (zzx hnt rfl ?_ (Lex.nil _)))) ?_
 ·exact zza
 ·exact zza
 refine tr_le (s' := St.of [(7, .one (.e (eI (lvF 4)))), (2, .one (.ptr 2 0 0)), (5, .one (.ptr 5 0 0)), (6, .one (.clo 89 [(5, 0, 0)]))] [(2, ⟨0, .box (.es [eI 4, eI v.k, eI v.i, eQ v.b, eT v.t, eT n, .sl ((([a])).map eEx)]), 0⟩), (5, ⟨0, .box (.ds [.own 3000 0]), 0⟩), (3000, ⟨0, .row 4 (([]).map eTok), 0⟩)]) (le_of (ad := []) ⟨zzl, zzl, zzl, zzl, trivial⟩ (memOk_box rfl rfl rfl (memOk_box rfl rfl zzi (memOk_row rfl rfl rfl trivial)))) ?_
 repeat' (first | refine tr_seq ?_ | refine tr_block ?_ | refine tr_skip ?_ | refine reg (T := tab) tOk hnt rfl (by exact zzt) ?_ | refine regD (T := tab) tOk mixedR hnt rfl (by first | decide +kernel | kernel_rfl) (by exact zzt) ?_ | refine tr_cond rfl (fun hc => ?_) (fun hc => absurd (show true = false from hc) Bool.noConfusion) | refine tr_cond rfl (fun hc => absurd (show false = true from hc) Bool.noConfusion) (fun hc => ?_))
 have h1 := (wordT_fn [78,79,84])
 have hpu := put_fn ([]) ([(wdT [78,79,84])]) (by first | (simp; done) | (simp; omega))
 repeat' first | refine zzs ?_ | refine zzb ?_ | refine zzk ?_
 refine tr_region (zzx hnt rfl ?_ (call rfl rfl rfl rfl rfl rfl rfl hnt (h1) (zzx hnt rfl ?_ (callH [(900000, 5)] [(900001, 3000)] [(900001, 3000)] rfl rfl rfl rfl (hpu) (by repeat' first | exact .nil | refine .lent rfl rfl rfl ?_ | refine argsData1 rfl ?_ | refine .data rfl ?_) (ver_upd1 rfl) rfl rfl hnt rfl rfl zzi zzi (zzx hnt rfl ?_ (Lex.nil _)))))) ?_
 ·exact zza
 ·exact zza
 ·exact zza
 refine tr_le (s' := St.of [(7, .one (.e (eI (lvF 4)))), (2, .one (.ptr 2 0 0)), (5, .one (.ptr 5 0 0)), (6, .one (.clo 89 [(5, 0, 0)]))] [(2, ⟨0, .box (.es [eI 4, eI v.k, eI v.i, eQ v.b, eT v.t, eT n, .sl ((([a])).map eEx)]), 0⟩), (5, ⟨0, .box (.ds [.own 3000 0]), 0⟩), (3000, ⟨0, .row 4 ((([(wdT [78,79,84])])).map eTok), 0⟩)]) (le_of (ad := []) ⟨zzl, zzl, zzl, zzl, trivial⟩ (memOk_box rfl rfl rfl (memOk_box rfl rfl zzi (memOk_row rfl rfl rfl trivial)))) ?_
 have hk := iha ((lvF 4))
 rw [← exAll a] at hk
 have hpu := put_fn (([(wdT [78,79,84])])) (shF a ((lvF 4))) (by first | (simp; done) | (simp; omega))
 repeat' first | refine zzs ?_ | refine zzb ?_ | refine zzk ?_
 refine tr_region (zzx hnt rfl ?_ (call rfl rfl rfl rfl rfl rfl rfl hnt (hk) (zzx hnt rfl ?_ (callH (us := []) [(900000, 5)] [(900001, 3000)] [(900001, 3000)] rfl rfl rfl rfl (hpu) (by repeat' first | exact .nil | refine .lent rfl rfl rfl ?_ | refine .data rfl ?_) (fun _ => rfl) rfl rfl hnt rfl rfl zzi zzi (zzx hnt rfl ?_ (Lex.nil _)))))) ?_
 ·exact zza
 ·exact zza
 ·exact zza
 repeat' first | refine zzs ?_ | refine zzr hnt rfl ?_ ?_ | refine zzd hnt rfl ?_ ?_ | refine zzb ?_ | refine zzk ?_
 ·exact zzt
 exact tr_ret ⟨.inr rfl, _, _, rfl, trivial, rfl⟩
set_option maxRecDepth 10000 in
set_option maxHeartbeats 2000000 in
theorem show_isn (least : Int) (v : Val) (n : Byt) (a : Ex) (iha : ∀ l : Int, FnD Tryd.prog 78 [.agg (.es (eEx a)), .one (.e (eI l))] (.one (.e (eTks (shF a l))))) (lena : ∀ l : Int, (shF a l).length ≤ 1000) (hl : least ≤ lvF 17) : FnD Tryd.prog 78 [.agg (.es (eEx (.mk 17 v n [a]))), .one (.e (eI least))] (.one (.e (eTks (shF a 5 ++ [wdT [73,83], wdT [78,85,76,76]])))) := by
 refine fn_intro (T := tab) tOk Tryd.func78 rfl (by kernel_rfl) (by simp [Tryd.ntmps78]) ?_
 intro X hX
 have hnt : X.nt = 167 := hX
 clear hX
 have fa : 0 + 7 ≤ (Cs.es (eEx a)).len := by have := ex7 a; show 0 + 7 ≤ (eEx a).length; omega
 have ga : (eEx a).length = 7 := ex7 a
 have na := lena 5
 have q0 : (0 : Int) < ((1 : Nat) : Int) := by decide
 rw [eEx_mk]
 repeat' first | refine zzs ?_ | refine zzb ?_ | refine zzk ?_
 first | refine zzr hnt rfl ?_ ?_ | refine zzd hnt rfl ?_ ?_
 ·exact zzt
 repeat' first | refine zzs ?_ | refine zzb ?_ | refine zzk ?_
 first | refine zzr hnt rfl ?_ ?_ | refine zzd hnt rfl ?_ ?_
 ·exact zzt
 repeat' first | refine zzs ?_ | refine zzb ?_ | refine zzk ?_
 first | refine zzr hnt rfl ?_ ?_ | refine zzd hnt rfl ?_ ?_
 ·exact zzt
 refine tr_le (s' := St.of [(1, .one (.e (eI least))), (2, .one (.ptr 2 0 0)), (5, .one (.ptr 5 0 0)), (6, .one (.clo 89 [(5, 0, 0)]))] [(2, ⟨0, .box (.es [eI 17, eI v.k, eI v.i, eQ v.b, eT v.t, eT n, .sl ((([a])).map eEx)]), 0⟩), (5, ⟨0, .box (.ds [.own 3000 0]), 0⟩), (3000, ⟨0, .row 4 ([].map eTok), 0⟩)]) (le_of (ad := [3000]) ⟨zzl, zzl, zzl, zzl, trivial⟩ (memOk_box rfl rfl rfl (memOk_box rfl rfl zzi (memOk_new rfl (by decide) trivial)))) ?_
 have hlv := level_fn 17 (by decide) (by decide)
 repeat' first | refine zzs ?_ | refine zzb ?_ | refine zzk ?_
 refine tr_region (zzx hnt rfl ?_ (call rfl rfl rfl rfl rfl rfl rfl hnt (hlv) (zzx hnt rfl ?_ (Lex.nil _)))) ?_
 ·exact zza
 ·exact zza
 repeat' first | refine zzs ?_ | refine zzb ?_ | refine zzk ?_
 refine tr_cond rfl (fun hc => ?_) (fun hc => ?_)
 ·exact absurd (of_decide_eq_true hc) (by omega)
 repeat' first | refine zzs ?_ | refine zzb ?_ | refine zzk ?_
 refine tr_region (zzx hnt rfl ?_ (call rfl rfl rfl rfl rfl rfl rfl hnt (hlv) (zzx hnt rfl ?_ (Lex.nil _)))) ?_
 ·exact zza
 ·exact zza
 refine tr_le (s' := St.of [(7, .one (.e (eI (lvF 17)))), (2, .one (.ptr 2 0 0)), (5, .one (.ptr 5 0 0)), (6, .one (.clo 89 [(5, 0, 0)]))] [(2, ⟨0, .box (.es [eI 17, eI v.k, eI v.i, eQ v.b, eT v.t, eT n, .sl ((([a])).map eEx)]), 0⟩), (5, ⟨0, .box (.ds [.own 3000 0]), 0⟩), (3000, ⟨0, .row 4 (([]).map eTok), 0⟩)]) (le_of (ad := []) ⟨zzl, zzl, zzl, zzl, trivial⟩ (memOk_box rfl rfl rfl (memOk_box rfl rfl zzi (memOk_row rfl rfl rfl trivial)))) ?_
 repeat' (first | refine tr_seq ?_ | refine tr_block ?_ | refine tr_skip ?_ | refine reg (T := tab) tOk hnt rfl (by exact zzt) ?_ | refine regD (T := tab) tOk mixedR hnt rfl (by first | decide +kernel | kernel_rfl) (by exact zzt) ?_ | refine tr_cond rfl (fun hc => ?_) (fun hc => absurd (show true = false from hc) Bool.noConfusion) | refine tr_cond rfl (fun hc => absurd (show false = true from hc) Bool.noConfusion) (fun hc => ?_))
 have hk := iha 5
 rw [← exAll a] at hk
 have hpu := put_fn ([]) (shF a 5) (by first | (simp; done) | (simp; omega))
 repeat' first | refine zzs ?_ | refine zzb ?_ | refine zzk ?_
 refine tr_region (zzx hnt rfl ?_ (call rfl rfl rfl rfl rfl rfl rfl hnt (hk) (zzx hnt rfl ?_ (callH (us := []) [(900000, 5)] [(900001, 3000)] [(900001, 3000)] rfl rfl rfl rfl (hpu) (by repeat' first | exact .nil | refine .lent rfl rfl rfl ?_ | refine .data rfl ?_) (fun _ => rfl) rfl rfl hnt rfl rfl zzi zzi (zzx hnt rfl ?_ (Lex.nil _)))))) ?_
 ·exact zza
 ·exact zza
 ·exact zza
 refine tr_le (s' := St.of [(7, .one (.e (eI (lvF 17)))), (2, .one (.ptr 2 0 0)), (5, .one (.ptr 5 0 0)), (6, .one (.clo 89 [(5, 0, 0)]))] [(2, ⟨0, .box (.es [eI 17, eI v.k, eI v.i, eQ v.b, eT v.t, eT n, .sl ((([a])).map eEx)]), 0⟩), (5, ⟨0, .box (.ds [.own 3000 0]), 0⟩), (3000, ⟨0, .row 4 (((shF a 5)).map eTok), 0⟩)]) (le_of (ad := []) ⟨zzl, zzl, zzl, zzl, trivial⟩ (memOk_box rfl rfl rfl (memOk_box rfl rfl zzi (memOk_row rfl rfl rfl trivial)))) ?_
 have h1 := (wordT_fn [73,83])
 have h2 := (wordT_fn [78,85,76,76])
 have hpu := put_fn ((shF a 5)) ([(wdT [73,83]), (wdT [78,85,76,76])]) (by first | (simp; done) | (simp; omega))
 repeat' first | refine zzs ?_ | refine zzb ?_ | refine zzk ?_
 refine tr_region (zzx hnt rfl ?_ (call rfl rfl rfl rfl rfl rfl rfl hnt (h1) (zzx hnt rfl ?_ (call rfl rfl rfl rfl rfl rfl rfl hnt (h2) (zzx hnt rfl ?_ (callH [(900000, 5)] [(900001, 3000)] [(900001, 3000)] rfl rfl rfl rfl (hpu) (by repeat' first | exact .nil | refine .lent rfl rfl rfl ?_ | refine argsData1 rfl ?_ | refine .data rfl ?_) (ver_upd1 rfl) rfl rfl hnt rfl rfl zzi zzi (zzx hnt rfl ?_ (Lex.nil _)))))))) ?_
 ·exact zza
 ·exact zza
 ·exact zza
 ·exact zza
 repeat' first | refine zzs ?_ | refine zzr hnt rfl ?_ ?_ | refine zzd hnt rfl ?_ ?_ | refine zzb ?_ | refine zzk ?_
 ·exact zzt
 exact tr_ret ⟨.inr rfl, _, _, rfl, trivial, rfl⟩
set_option maxRecDepth 10000 in
set_option maxHeartbeats 2000000 in
theorem show_len (least : Int) (v : Val) (n : Byt) (a : Ex) (iha : ∀ l : Int, FnD Tryd.prog 78 [.agg (.es (eEx a)), .one (.e (eI l))] (.one (.e (eTks (shF a l))))) (lena : ∀ l : Int, (shF a l).length ≤ 1000) (hl : least ≤ lvF 18) : FnD Tryd.prog 78 [.agg (.es (eEx (.mk 18 v n [a]))), .one (.e (eI least))] (.one (.e (eTks ([wdT [76,69,78,71,84,72], sgT [40]] ++ shF a 1 ++ [sgT [41]])))) := by
 refine fn_intro (T := tab) tOk Tryd.func78 rfl (by kernel_rfl) (by simp [Tryd.ntmps78]) ?_
 intro X hX
 have hnt : X.nt = 167 := hX
 clear hX
 have fa : 0 + 7 ≤ (Cs.es (eEx a)).len := by have := ex7 a; show 0 + 7 ≤ (eEx a).length; omega
 have ga : (eEx a).length = 7 := ex7 a
 have na := lena 1
 have q0 : (0 : Int) < ((1 : Nat) : Int) := by decide
 rw [eEx_mk]
 repeat' first | refine zzs ?_ | refine zzb ?_ | refine zzk ?_
 first | refine zzr hnt rfl ?_ ?_ | refine zzd hnt rfl ?_ ?_
 ·exact zzt
 repeat' first | refine zzs ?_ | refine zzb ?_ | refine zzk ?_
 first | refine zzr hnt rfl ?_ ?_ | refine zzd hnt rfl ?_ ?_
 ·exact zzt
 repeat' first | refine zzs ?_ | refine zzb ?_ | refine zzk ?_
 first | refine zzr hnt rfl ?_ ?_ | refine zzd hnt rfl ?_ ?_
 ·exact zzt
 refine tr_le (s' := St.of [(1, .one (.e (eI least))), (2, .one (.ptr 2 0 0)), (5, .one (.ptr 5 0 0)), (6, .one (.clo 89 [(5, 0, 0)]))] [(2, ⟨0, .box (.es [eI 18, eI v.k, eI v.i, eQ v.b, eT v.t, eT n, .sl ((([a])).map eEx)]), 0⟩), (5, ⟨0, .box (.ds [.own 3000 0]), 0⟩), (3000, ⟨0, .row 4 ([].map eTok), 0⟩)]) (le_of (ad := [3000]) ⟨zzl, zzl, zzl, zzl, trivial⟩ (memOk_box rfl rfl rfl (memOk_box rfl rfl zzi (memOk_new rfl (by decide) trivial)))) ?_
 have hlv := level_fn 18 (by decide) (by decide)
 repeat' first | refine zzs ?_ | refine zzb ?_ | refine zzk ?_
 refine tr_region (zzx hnt rfl ?_ (call rfl rfl rfl rfl rfl rfl rfl hnt (hlv) (zzx hnt rfl ?_ (Lex.nil _)))) ?_
 ·exact zza
 ·exact zza
 repeat' first | refine zzs ?_ | refine zzb ?_ | refine zzk ?_
 refine tr_cond rfl (fun hc => ?_) (fun hc => ?_)
 ·exact absurd (of_decide_eq_true hc) (by omega)
 repeat' first | refine zzs ?_ | refine zzb ?_ | refine zzk ?_
 refine tr_region (zzx hnt rfl ?_ (call rfl rfl rfl rfl rfl rfl rfl hnt (hlv) (zzx hnt rfl ?_ (Lex.nil _)))) ?_
 ·exact zza
 ·exact zza
 refine tr_le (s' := St.of [(7, .one (.e (eI (lvF 18)))), (2, .one (.ptr 2 0 0)), (5, .one (.ptr 5 0 0)), (6, .one (.clo 89 [(5, 0, 0)]))] [(2, ⟨0, .box (.es [eI 18, eI v.k, eI v.i, eQ v.b, eT v.t, eT n, .sl ((([a])).map eEx)]), 0⟩), (5, ⟨0, .box (.ds [.own 3000 0]), 0⟩), (3000, ⟨0, .row 4 (([]).map eTok), 0⟩)]) (le_of (ad := []) ⟨zzl, zzl, zzl, zzl, trivial⟩ (memOk_box rfl rfl rfl (memOk_box rfl rfl zzi (memOk_row rfl rfl rfl trivial)))) ?_
 repeat' (first | refine tr_seq ?_ | refine tr_block ?_ | refine tr_skip ?_ | refine reg (T := tab) tOk hnt rfl (by exact zzt) ?_ | refine regD (T := tab) tOk mixedR hnt rfl (by first | decide +kernel | kernel_rfl) (by exact zzt) ?_ | refine tr_cond rfl (fun hc => ?_) (fun hc => absurd (show true = false from hc) Bool.noConfusion) | refine tr_cond rfl (fun hc => absurd (show false = true from hc) Bool.noConfusion) (fun hc => ?_))
 have h1 := (wordT_fn [76,69,78,71,84,72])
 have h2 := (signT_fn [40])
 have hpu := put_fn ([]) ([(wdT [76,69,78,71,84,72]), (sgT [40])]) (by first | (simp; done) | (simp; omega))
 repeat' first | refine zzs ?_ | refine zzb ?_ | refine zzk ?_
 refine tr_region (zzx hnt rfl ?_ (call rfl rfl rfl rfl rfl rfl rfl hnt (h1) (zzx hnt rfl ?_ (call rfl rfl rfl rfl rfl rfl rfl hnt (h2) (zzx hnt rfl ?_ (callH [(900000, 5)] [(900001, 3000)] [(900001, 3000)] rfl rfl rfl rfl (hpu) (by repeat' first | exact .nil | refine .lent rfl rfl rfl ?_ | refine argsData1 rfl ?_ | refine .data rfl ?_) (ver_upd1 rfl) rfl rfl hnt rfl rfl zzi zzi (zzx hnt rfl ?_ (Lex.nil _)))))))) ?_
 ·exact zza
 ·exact zza
 ·exact zza
 ·exact zza
 refine tr_le (s' := St.of [(7, .one (.e (eI (lvF 18)))), (2, .one (.ptr 2 0 0)), (5, .one (.ptr 5 0 0)), (6, .one (.clo 89 [(5, 0, 0)]))] [(2, ⟨0, .box (.es [eI 18, eI v.k, eI v.i, eQ v.b, eT v.t, eT n, .sl ((([a])).map eEx)]), 0⟩), (5, ⟨0, .box (.ds [.own 3000 0]), 0⟩), (3000, ⟨0, .row 4 ((([wdT [76,69,78,71,84,72], sgT [40]])).map eTok), 0⟩)]) (le_of (ad := []) ⟨zzl, zzl, zzl, zzl, trivial⟩ (memOk_box rfl rfl rfl (memOk_box rfl rfl zzi (memOk_row rfl rfl rfl trivial)))) ?_
 have hk := iha 1
 rw [← exAll a] at hk
 have hpu := put_fn (([wdT [76,69,78,71,84,72], sgT [40]])) (shF a 1) (by first | (simp; done) | (simp; omega))
 repeat' first | refine zzs ?_ | refine zzb ?_ | refine zzk ?_
 refine tr_region (zzx hnt rfl ?_ (call rfl rfl rfl rfl rfl rfl rfl hnt (hk) (zzx hnt rfl ?_ (callH (us := []) [(900000, 5)] [(900001, 3000)] [(900001, 3000)] rfl rfl rfl rfl (hpu) (by repeat' first | exact .nil | refine .lent rfl rfl rfl ?_ | refine .data rfl ?_) (fun _ => rfl) rfl rfl hnt rfl rfl zzi zzi (zzx hnt rfl ?_ (Lex.nil _)))))) ?_
 ·exact zza
 ·exact zza
 ·exact zza
 refine tr_le (s' := St.of [(7, .one (.e (eI (lvF 18)))), (2, .one (.ptr 2 0 0)), (5, .one (.ptr 5 0 0)), (6, .one (.clo 89 [(5, 0, 0)]))] [(2, ⟨0, .box (.es [eI 18, eI v.k, eI v.i, eQ v.b, eT v.t, eT n, .sl ((([a])).map eEx)]), 0⟩), (5, ⟨0, .box (.ds [.own 3000 0]), 0⟩), (3000, ⟨0, .row 4 ((([wdT [76,69,78,71,84,72], sgT [40]] ++ shF a 1)).map eTok), 0⟩)]) (le_of (ad := []) ⟨zzl, zzl, zzl, zzl, trivial⟩ (memOk_box rfl rfl rfl (memOk_box rfl rfl zzi (memOk_row rfl rfl rfl trivial)))) ?_
 have h1 := (signT_fn [41])
 have hpu := put_fn (([wdT [76,69,78,71,84,72], sgT [40]] ++ shF a 1)) ([(sgT [41])]) (by first | (simp; done) | (simp; omega))
 repeat' first | refine zzs ?_ | refine zzb ?_ | refine zzk ?_
 refine tr_region (zzx hnt rfl ?_ (call rfl rfl rfl rfl rfl rfl rfl hnt (h1) (zzx hnt rfl ?_ (callH [(900000, 5)] [(900001, 3000)] [(900001, 3000)] rfl rfl rfl rfl (hpu) (by repeat' first | exact .nil | refine .lent rfl rfl rfl ?_ | refine argsData1 rfl ?_ | refine .data rfl ?_) (ver_upd1 rfl) rfl rfl hnt rfl rfl zzi zzi (zzx hnt rfl ?_ (Lex.nil _)))))) ?_
 ·exact zza
 ·exact zza
 ·exact zza
 repeat' first | refine zzs ?_ | refine zzr hnt rfl ?_ ?_ | refine zzd hnt rfl ?_ ?_ | refine zzb ?_ | refine zzk ?_
 ·exact zzt
 exact tr_ret ⟨.inr rfl, _, _, rfl, trivial, rfl⟩
set_option maxRecDepth 10000 in
set_option maxHeartbeats 2000000 in
theorem show_coa (least : Int) (v : Val) (n : Byt) (a : Ex) (iha : ∀ l : Int, FnD Tryd.prog 78 [.agg (.es (eEx a)), .one (.e (eI l))] (.one (.e (eTks (shF a l))))) (lena : ∀ l : Int, (shF a l).length ≤ 1000) (b : Ex) (ihb : ∀ l : Int, FnD Tryd.prog 78 [.agg (.es (eEx b)), .one (.e (eI l))] (.one (.e (eTks (shF b l))))) (lenb : ∀ l : Int, (shF b l).length ≤ 1000) (hl : least ≤ lvF 20) : FnD Tryd.prog 78 [.agg (.es (eEx (.mk 20 v n [a, b]))), .one (.e (eI least))] (.one (.e (eTks ([wdT [67,79,65,76,69,83,67,69], sgT [40]] ++ shF a 1 ++ [sgT [44]] ++ shF b 1 ++ [sgT [41]])))) := by
 refine fn_intro (T := tab) tOk Tryd.func78 rfl (by kernel_rfl) (by simp [Tryd.ntmps78]) ?_
 intro X hX
 have hnt : X.nt = 167 := hX
 clear hX
 have fa : 0 + 7 ≤ (Cs.es (eEx a)).len := by have := ex7 a; show 0 + 7 ≤ (eEx a).length; omega
 have ga : (eEx a).length = 7 := ex7 a
 have na := lena 1
 have fb : 0 + 7 ≤ (Cs.es (eEx b)).len := by have := ex7 b; show 0 + 7 ≤ (eEx b).length; omega
 have gb : (eEx b).length = 7 := ex7 b
 have nb := lenb 1
 have q0 : (0 : Int) < ((2 : Nat) : Int) := by decide
 have q1 : (1 : Int) < ((2 : Nat) : Int) := by decide
 rw [eEx_mk]
 repeat' first | refine zzs ?_ | refine zzb ?_ | refine zzk ?_
 first | refine zzr hnt rfl ?_ ?_ | refine zzd hnt rfl ?_ ?_
 ·exact zzt
 repeat' first | refine zzs ?_ | refine zzb ?_ | refine zzk ?_
 first | refine zzr hnt rfl ?_ ?_ | refine zzd hnt rfl ?_ ?_
 ·exact zzt
 repeat' first | refine zzs ?_ | refine zzb ?_ | refine zzk ?_
 first | refine zzr hnt rfl ?_ ?_ | refine zzd hnt rfl ?_ ?_
 ·exact zzt
 refine tr_le (s' := St.of [(1, .one (.e (eI least))), (2, .one (.ptr 2 0 0)), (5, .one (.ptr 5 0 0)), (6, .one (.clo 89 [(5, 0, 0)]))] [(2, ⟨0, .box (.es [eI 20, eI v.k, eI v.i, eQ v.b, eT v.t, eT n, .sl ((([a, b])).map eEx)]), 0⟩), (5, ⟨0, .box (.ds [.own 3000 0]), 0⟩), (3000, ⟨0, .row 4 ([].map eTok), 0⟩)]) (le_of (ad := [3000]) ⟨zzl, zzl, zzl, zzl, trivial⟩ (memOk_box rfl rfl rfl (memOk_box rfl rfl zzi (memOk_new rfl (by decide) trivial)))) ?_
 have hlv := level_fn 20 (by decide) (by decide)
 repeat' first | refine zzs ?_ | refine zzb ?_ | refine zzk ?_
 refine tr_region (zzx hnt rfl ?_ (call rfl rfl rfl rfl rfl rfl rfl hnt (hlv) (zzx hnt rfl ?_ (Lex.nil _)))) ?_
 ·exact zza
 ·exact zza
 repeat' first | refine zzs ?_ | refine zzb ?_ | refine zzk ?_
 refine tr_cond rfl (fun hc => ?_) (fun hc => ?_)
 ·exact absurd (of_decide_eq_true hc) (by omega)
 repeat' first | refine zzs ?_ | refine zzb ?_ | refine zzk ?_
 refine tr_region (zzx hnt rfl ?_ (call rfl rfl rfl rfl rfl rfl rfl hnt (hlv) (zzx hnt rfl ?_ (Lex.nil _)))) ?_
 ·exact zza
 ·exact zza
 refine tr_le (s' := St.of [(7, .one (.e (eI (lvF 20)))), (2, .one (.ptr 2 0 0)), (5, .one (.ptr 5 0 0)), (6, .one (.clo 89 [(5, 0, 0)]))] [(2, ⟨0, .box (.es [eI 20, eI v.k, eI v.i, eQ v.b, eT v.t, eT n, .sl ((([a, b])).map eEx)]), 0⟩), (5, ⟨0, .box (.ds [.own 3000 0]), 0⟩), (3000, ⟨0, .row 4 (([]).map eTok), 0⟩)]) (le_of (ad := []) ⟨zzl, zzl, zzl, zzl, trivial⟩ (memOk_box rfl rfl rfl (memOk_box rfl rfl zzi (memOk_row rfl rfl rfl trivial)))) ?_
 repeat' (first | refine tr_seq ?_ | refine tr_block ?_ | refine tr_skip ?_ | refine reg (T := tab) tOk hnt rfl (by exact zzt) ?_ | refine regD (T := tab) tOk mixedR hnt rfl (by first | decide +kernel | kernel_rfl) (by exact zzt) ?_ | refine tr_cond rfl (fun hc => ?_) (fun hc => absurd (show true = false from hc) Bool.noConfusion) | refine tr_cond rfl (fun hc => absurd (show false = true from hc) Bool.noConfusion) (fun hc => ?_))
 have h1 := (wordT_fn [67,79,65,76,69,83,67,69])
 have h2 := (signT_fn [40])
 have hpu := put_fn ([]) ([(wdT [67,79,65,76,69,83,67,69]), (sgT [40])]) (by first | (simp; done) | (simp; omega))
 repeat' first | refine zzs ?_ | refine zzb ?_ | refine zzk ?_
 refine tr_region (zzx hnt rfl ?_ (call rfl rfl rfl rfl rfl rfl rfl hnt (h1) (zzx hnt rfl ?_ (call rfl rfl rfl rfl rfl rfl rfl hnt (h2) (zzx hnt rfl ?_ (callH [(900000, 5)] [(900001, 3000)] [(900001, 3000)] rfl rfl rfl rfl (hpu) (by repeat' first | exact .nil | refine .lent rfl rfl rfl ?_ | refine argsData1 rfl ?_ | refine .data rfl ?_) (ver_upd1 rfl) rfl rfl hnt rfl rfl zzi zzi (zzx hnt rfl ?_ (Lex.nil _)))))))) ?_
 ·exact zza
 ·exact zza
 ·exact zza
 ·exact zza
 refine tr_le (s' := St.of [(7, .one (.e (eI (lvF 20)))), (2, .one (.ptr 2 0 0)), (5, .one (.ptr 5 0 0)), (6, .one (.clo 89 [(5, 0, 0)]))] [(2, ⟨0, .box (.es [eI 20, eI v.k, eI v.i, eQ v.b, eT v.t, eT n, .sl ((([a, b])).map eEx)]), 0⟩), (5, ⟨0, .box (.ds [.own 3000 0]), 0⟩), (3000, ⟨0, .row 4 ((([wdT [67,79,65,76,69,83,67,69], sgT [40]])).map eTok), 0⟩)]) (le_of (ad := []) ⟨zzl, zzl, zzl, zzl, trivial⟩ (memOk_box rfl rfl rfl (memOk_box rfl rfl zzi (memOk_row rfl rfl rfl trivial)))) ?_
 have hk := iha 1
 rw [← exAll a] at hk
 have hpu := put_fn (([wdT [67,79,65,76,69,83,67,69], sgT [40]])) (shF a 1) (by first | (simp; done) | (simp; omega))
 repeat' first | refine zzs ?_ | refine zzb ?_ | refine zzk ?_
 refine tr_region (zzx hnt rfl ?_ (call rfl rfl rfl rfl rfl rfl rfl hnt (hk) (zzx hnt rfl ?_ (callH (us := []) [(900000, 5)] [(900001, 3000)] [(900001, 3000)] rfl rfl rfl rfl (hpu) (by repeat' first | exact .nil | refine .lent rfl rfl rfl ?_ | refine .data rfl ?_) (fun _ => rfl) rfl rfl hnt rfl rfl zzi zzi (zzx hnt rfl ?_ (Lex.nil _)))))) ?_
 ·exact zza
 ·exact zza
 ·exact zza
 refine tr_le (s' := St.of [(7, .one (.e (eI (lvF 20)))), (2, .one (.ptr 2 0 0)), (5, .one (.ptr 5 0 0)), (6, .one (.clo 89 [(5, 0, 0)]))] [(2, ⟨0, .box (.es [eI 20, eI v.k, eI v.i, eQ v.b, eT v.t, eT n, .sl ((([a, b])).map eEx)]), 0⟩), (5, ⟨0, .box (.ds [.own 3000 0]), 0⟩), (3000, ⟨0, .row 4 ((([wdT [67,79,65,76,69,83,67,69], sgT [40]] ++ shF a 1)).map eTok), 0⟩)]) (le_of (ad := []) ⟨zzl, zzl, zzl, zzl, trivial⟩ (memOk_box rfl rfl rfl (memOk_box rfl rfl zzi (memOk_row rfl rfl rfl trivial)))) ?_
 have h1 := (signT_fn [44])
 have hpu := put_fn (([wdT [67,79,65,76,69,83,67,69], sgT [40]] ++ shF a 1)) ([(sgT [44])]) (by first | (simp; done) | (simp; omega))
 repeat' first | refine zzs ?_ | refine zzb ?_ | refine zzk ?_
 refine tr_region (zzx hnt rfl ?_ (call rfl rfl rfl rfl rfl rfl rfl hnt (h1) (zzx hnt rfl ?_ (callH [(900000, 5)] [(900001, 3000)] [(900001, 3000)] rfl rfl rfl rfl (hpu) (by repeat' first | exact .nil | refine .lent rfl rfl rfl ?_ | refine argsData1 rfl ?_ | refine .data rfl ?_) (ver_upd1 rfl) rfl rfl hnt rfl rfl zzi zzi (zzx hnt rfl ?_ (Lex.nil _)))))) ?_
 ·exact zza
 ·exact zza
 ·exact zza
 refine tr_le (s' := St.of [(7, .one (.e (eI (lvF 20)))), (2, .one (.ptr 2 0 0)), (5, .one (.ptr 5 0 0)), (6, .one (.clo 89 [(5, 0, 0)]))] [(2, ⟨0, .box (.es [eI 20, eI v.k, eI v.i, eQ v.b, eT v.t, eT n, .sl ((([a, b])).map eEx)]), 0⟩), (5, ⟨0, .box (.ds [.own 3000 0]), 0⟩), (3000, ⟨0, .row 4 ((([wdT [67,79,65,76,69,83,67,69], sgT [40]] ++ shF a 1 ++ [sgT [44]])).map eTok), 0⟩)]) (le_of (ad := []) ⟨zzl, zzl, zzl, zzl, trivial⟩ (memOk_box rfl rfl rfl (memOk_box rfl rfl zzi (memOk_row rfl rfl rfl trivial)))) ?_
 have hk := ihb 1
 rw [← exAll b] at hk
 have hpu := put_fn (([wdT [67,79,65,76,69,83,67,69], sgT [40]] ++ shF a 1 ++ [sgT [44]])) (shF b 1) (by first | (simp; done) | (simp; omega))
 repeat' first | refine zzs ?_ | refine zzb ?_ | refine zzk ?_
 refine tr_region (zzx hnt rfl ?_ (call rfl rfl rfl rfl rfl rfl rfl hnt (hk) (zzx hnt rfl ?_ (callH (us := []) [(900000, 5)] [(900001, 3000)] [(900001, 3000)] rfl rfl rfl rfl (hpu) (by repeat' first | exact .nil | refine .lent rfl rfl rfl ?_ | refine .data rfl ?_) (fun _ => rfl) rfl rfl hnt rfl rfl zzi zzi (zzx hnt rfl ?_ (Lex.nil _)))))) ?_
 ·exact zza
 ·exact zza
 ·exact zza
 refine tr_le (s' := St.of [(7, .one (.e (eI (lvF 20)))), (2, .one (.ptr 2 0 0)), (5, .one (.ptr 5 0 0)), (6, .one (.clo 89 [(5, 0, 0)]))] [(2, ⟨0, .box (.es [eI 20, eI v.k, eI v.i, eQ v.b, eT v.t, eT n, .sl ((([a, b])).map eEx)]), 0⟩), (5, ⟨0, .box (.ds [.own 3000 0]), 0⟩), (3000, ⟨0, .row 4 ((([wdT [67,79,65,76,69,83,67,69], sgT [40]] ++ shF a 1 ++ [sgT [44]] ++ shF b 1)).map eTok), 0⟩)]) (le_of (ad := []) ⟨zzl, zzl, zzl, zzl, trivial⟩ (memOk_box rfl rfl rfl (memOk_box rfl rfl zzi (memOk_row rfl rfl rfl trivial)))) ?_
 have h1 := (signT_fn [41])
 have hpu := put_fn (([wdT [67,79,65,76,69,83,67,69], sgT [40]] ++ shF a 1 ++ [sgT [44]] ++ shF b 1)) ([(sgT [41])]) (by first | (simp; done) | (simp; omega))
 repeat' first | refine zzs ?_ | refine zzb ?_ | refine zzk ?_
 refine tr_region (zzx hnt rfl ?_ (call rfl rfl rfl rfl rfl rfl rfl hnt (h1) (zzx hnt rfl ?_ (callH [(900000, 5)] [(900001, 3000)] [(900001, 3000)] rfl rfl rfl rfl (hpu) (by repeat' first | exact .nil | refine .lent rfl rfl rfl ?_ | refine argsData1 rfl ?_ | refine .data rfl ?_) (ver_upd1 rfl) rfl rfl hnt rfl rfl zzi zzi (zzx hnt rfl ?_ (Lex.nil _)))))) ?_
 ·exact zza
 ·exact zza
 ·exact zza
 repeat' first | refine zzs ?_ | refine zzr hnt rfl ?_ ?_ | refine zzd hnt rfl ?_ ?_ | refine zzb ?_ | refine zzk ?_
 ·exact zzt
 exact tr_ret ⟨.inr rfl, _, _, rfl, trivial, rfl⟩
set_option maxRecDepth 10000 in
set_option maxHeartbeats 2000000 in
theorem show_bin (op : Int) (ho : (5 ≤ op ∧ op ≤ 16) ∨ op = 19) (least : Int) (v : Val) (n : Byt) (a : Ex) (iha : ∀ l : Int, FnD Tryd.prog 78 [.agg (.es (eEx a)), .one (.e (eI l))] (.one (.e (eTks (shF a l))))) (lena : ∀ l : Int, (shF a l).length ≤ 1000) (b : Ex) (ihb : ∀ l : Int, FnD Tryd.prog 78 [.agg (.es (eEx b)), .one (.e (eI l))] (.one (.e (eTks (shF b l))))) (lenb : ∀ l : Int, (shF b l).length ≤ 1000) (hl : least ≤ lvF op) : FnD Tryd.prog 78 [.agg (.es (eEx (.mk op v n [a, b]))), .one (.e (eI least))] (.one (.e (eTks (shF a (left op) ++ [mkS op] ++ shF b (lvF op + 1))))) := by
 refine fn_intro (T := tab) tOk Tryd.func78 rfl (by kernel_rfl) (by simp [Tryd.ntmps78]) ?_
 intro X hX
 have hnt : X.nt = 167 := hX
 clear hX
 have q0 : (0 : Int) < ((2 : Nat) : Int) := by decide
 have q1 : (1 : Int) < ((2 : Nat) : Int) := by decide
 rcases (by omega : op = 5 ∨ op = 6 ∨ op = 7 ∨ op = 8 ∨ op = 9 ∨ op = 10 ∨ op = 11 ∨ op = 12 ∨ op = 13 ∨ op = 14 ∨ op = 15 ∨ op = 16 ∨ op = 19) with rfl | rfl | rfl | rfl | rfl | rfl | rfl | rfl | rfl | rfl | rfl | rfl | rfl
 ·clear ho
  have fa : 0 + 7 ≤ (Cs.es (eEx a)).len := by have := ex7 a; show 0 + 7 ≤ (eEx a).length; omega
  have ga : (eEx a).length = 7 := ex7 a
  have na := lena (left 5)
  have fb : 0 + 7 ≤ (Cs.es (eEx b)).len := by have := ex7 b; show 0 + 7 ≤ (eEx b).length; omega
  have gb : (eEx b).length = 7 := ex7 b
  have nb := lenb (lvF 5 + 1)
  rw [eEx_mk]
  repeat' first | refine zzs ?_ | refine zzb ?_ | refine zzk ?_
  first | refine zzr hnt rfl ?_ ?_ | refine zzd hnt rfl ?_ ?_
  ·exact zzt
  repeat' first | refine zzs ?_ | refine zzb ?_ | refine zzk ?_
  first | refine zzr hnt rfl ?_ ?_ | refine zzd hnt rfl ?_ ?_
  ·exact zzt
  repeat' first | refine zzs ?_ | refine zzb ?_ | refine zzk ?_
  first | refine zzr hnt rfl ?_ ?_ | refine zzd hnt rfl ?_ ?_
  ·exact zzt
  refine tr_le (s' := St.of [(1, .one (.e (eI least))), (2, .one (.ptr 2 0 0)), (5, .one (.ptr 5 0 0)), (6, .one (.clo 89 [(5, 0, 0)]))] [(2, ⟨0, .box (.es [eI 5, eI v.k, eI v.i, eQ v.b, eT v.t, eT n, .sl ((([a, b])).map eEx)]), 0⟩), (5, ⟨0, .box (.ds [.own 3000 0]), 0⟩), (3000, ⟨0, .row 4 ([].map eTok), 0⟩)]) (le_of (ad := [3000]) ⟨zzl, zzl, zzl, zzl, trivial⟩ (memOk_box rfl rfl rfl (memOk_box rfl rfl zzi (memOk_new rfl (by decide) trivial)))) ?_
  have hlv := level_fn 5 (by decide) (by decide)
  repeat' first | refine zzs ?_ | refine zzb ?_ | refine zzk ?_
  refine tr_region (zzx hnt rfl ?_ (call rfl rfl rfl rfl rfl rfl rfl hnt (hlv) (zzx hnt rfl ?_ (Lex.nil _)))) ?_
  ·exact zza
  ·exact zza
  repeat' first | refine zzs ?_ | refine zzb ?_ | refine zzk ?_
  refine tr_cond rfl (fun hc => ?_) (fun hc => ?_)
  ·exact absurd (of_decide_eq_true hc) (by omega)
  repeat' first | refine zzs ?_ | refine zzb ?_ | refine zzk ?_
  refine tr_region (zzx hnt rfl ?_ (call rfl rfl rfl rfl rfl rfl rfl hnt (hlv) (zzx hnt rfl ?_ (Lex.nil _)))) ?_
  ·exact zza
  ·exact zza
  refine tr_le (s' := St.of [(7, .one (.e (eI (lvF 5)))), (2, .one (.ptr 2 0 0)), (5, .one (.ptr 5 0 0)), (6, .one (.clo 89 [(5, 0, 0)]))] [(2, ⟨0, .box (.es [eI 5, eI v.k, eI v.i, eQ v.b, eT v.t, eT n, .sl ((([a, b])).map eEx)]), 0⟩), (5, ⟨0, .box (.ds [.own 3000 0]), 0⟩), (3000, ⟨0, .row 4 (([]).map eTok), 0⟩)]) (le_of (ad := []) ⟨zzl, zzl, zzl, zzl, trivial⟩ (memOk_box rfl rfl rfl (memOk_box rfl rfl zzi (memOk_row rfl rfl rfl trivial)))) ?_
  repeat' (first | refine tr_seq ?_ | refine tr_block ?_ | refine tr_skip ?_ | refine reg (T := tab) tOk hnt rfl (by exact zzt) ?_ | refine regD (T := tab) tOk mixedR hnt rfl (by first | decide +kernel | kernel_rfl) (by exact zzt) ?_ | refine tr_cond rfl (fun hc => ?_) (fun hc => absurd (show true = false from hc) Bool.noConfusion) | refine tr_cond rfl (fun hc => absurd (show false = true from hc) Bool.noConfusion) (fun hc => ?_))
  have hk := iha (left 5)
  rw [← exAll a] at hk
  have hpu := put_fn ([]) (shF a (left 5)) (by first | (simp; done) | (simp; omega))
  repeat' first | refine zzs ?_ | refine zzb ?_ | refine zzk ?_
  refine tr_region (zzx hnt rfl ?_ (call rfl rfl rfl rfl rfl rfl rfl hnt (hk) (zzx hnt rfl ?_ (callH (us := []) [(900000, 5)] [(900001, 3000)] [(900001, 3000)] rfl rfl rfl rfl (hpu) (by repeat' first | exact .nil | refine .lent rfl rfl rfl ?_ | refine .data rfl ?_) (fun _ => rfl) rfl rfl hnt rfl rfl zzi zzi (zzx hnt rfl ?_ (Lex.nil _)))))) ?_
  ·exact zza
  ·exact zza
  ·exact zza
  refine tr_le (s' := St.of [(7, .one (.e (eI (lvF 5)))), (2, .one (.ptr 2 0 0)), (5, .one (.ptr 5 0 0)), (6, .one (.clo 89 [(5, 0, 0)]))] [(2, ⟨0, .box (.es [eI 5, eI v.k, eI v.i, eQ v.b, eT v.t, eT n, .sl ((([a, b])).map eEx)]), 0⟩), (5, ⟨0, .box (.ds [.own 3000 0]), 0⟩), (3000, ⟨0, .row 4 (((shF a (left 5))).map eTok), 0⟩)]) (le_of (ad := []) ⟨zzl, zzl, zzl, zzl, trivial⟩ (memOk_box rfl rfl rfl (memOk_box rfl rfl zzi (memOk_row rfl rfl rfl trivial)))) ?_
  have h1 := (mark_fn 5 (by decide))
  have hpu := put_fn ((shF a (left 5))) ([(mkS 5)]) (by first | (simp; done) | (simp; omega))
  repeat' first | refine zzs ?_ | refine zzb ?_ | refine zzk ?_
  refine tr_region (zzx hnt rfl ?_ (call rfl rfl rfl rfl rfl rfl rfl hnt (h1) (zzx hnt rfl ?_ (callH [(900000, 5)] [(900001, 3000)] [(900001, 3000)] rfl rfl rfl rfl (hpu) (by repeat' first | exact .nil | refine .lent rfl rfl rfl ?_ | refine argsData1 rfl ?_ | refine .data rfl ?_) (ver_upd1 rfl) rfl rfl hnt rfl rfl zzi zzi (zzx hnt rfl ?_ (Lex.nil _)))))) ?_
  ·exact zza
  ·exact zza
  ·exact zza
  refine tr_le (s' := St.of [(7, .one (.e (eI (lvF 5)))), (2, .one (.ptr 2 0 0)), (5, .one (.ptr 5 0 0)), (6, .one (.clo 89 [(5, 0, 0)]))] [(2, ⟨0, .box (.es [eI 5, eI v.k, eI v.i, eQ v.b, eT v.t, eT n, .sl ((([a, b])).map eEx)]), 0⟩), (5, ⟨0, .box (.ds [.own 3000 0]), 0⟩), (3000, ⟨0, .row 4 (((shF a (left 5) ++ [mkS 5])).map eTok), 0⟩)]) (le_of (ad := []) ⟨zzl, zzl, zzl, zzl, trivial⟩ (memOk_box rfl rfl rfl (memOk_box rfl rfl zzi (memOk_row rfl rfl rfl trivial)))) ?_
  have hk := ihb (lvF 5 + 1)
  rw [← exAll b] at hk
  have hpu := put_fn ((shF a (left 5) ++ [mkS 5])) (shF b (lvF 5 + 1)) (by first | (simp; done) | (simp; omega))
  repeat' first | refine zzs ?_ | refine zzb ?_ | refine zzk ?_
  refine tr_region (zzx hnt rfl ?_ (call rfl rfl rfl rfl rfl rfl rfl hnt (hk) (zzx hnt rfl ?_ (callH (us := []) [(900000, 5)] [(900001, 3000)] [(900001, 3000)] rfl rfl rfl rfl (hpu) (by repeat' first | exact .nil | refine .lent rfl rfl rfl ?_ | refine .data rfl ?_) (fun _ => rfl) rfl rfl hnt rfl rfl zzi zzi (zzx hnt rfl ?_ (Lex.nil _)))))) ?_
  ·exact zza
  ·exact zza
  ·exact zza
  repeat' first | refine zzs ?_ | refine zzr hnt rfl ?_ ?_ | refine zzd hnt rfl ?_ ?_ | refine zzb ?_ | refine zzk ?_
  ·exact zzt
  exact tr_ret ⟨.inr rfl, _, _, rfl, trivial, rfl⟩
 ·clear ho
  have fa : 0 + 7 ≤ (Cs.es (eEx a)).len := by have := ex7 a; show 0 + 7 ≤ (eEx a).length; omega
  have ga : (eEx a).length = 7 := ex7 a
  have na := lena (left 6)
  have fb : 0 + 7 ≤ (Cs.es (eEx b)).len := by have := ex7 b; show 0 + 7 ≤ (eEx b).length; omega
  have gb : (eEx b).length = 7 := ex7 b
  have nb := lenb (lvF 6 + 1)
  rw [eEx_mk]
  repeat' first | refine zzs ?_ | refine zzb ?_ | refine zzk ?_
  first | refine zzr hnt rfl ?_ ?_ | refine zzd hnt rfl ?_ ?_
  ·exact zzt
  repeat' first | refine zzs ?_ | refine zzb ?_ | refine zzk ?_
  first | refine zzr hnt rfl ?_ ?_ | refine zzd hnt rfl ?_ ?_
  ·exact zzt
  repeat' first | refine zzs ?_ | refine zzb ?_ | refine zzk ?_
  first | refine zzr hnt rfl ?_ ?_ | refine zzd hnt rfl ?_ ?_
  ·exact zzt
  refine tr_le (s' := St.of [(1, .one (.e (eI least))), (2, .one (.ptr 2 0 0)), (5, .one (.ptr 5 0 0)), (6, .one (.clo 89 [(5, 0, 0)]))] [(2, ⟨0, .box (.es [eI 6, eI v.k, eI v.i, eQ v.b, eT v.t, eT n, .sl ((([a, b])).map eEx)]), 0⟩), (5, ⟨0, .box (.ds [.own 3000 0]), 0⟩), (3000, ⟨0, .row 4 ([].map eTok), 0⟩)]) (le_of (ad := [3000]) ⟨zzl, zzl, zzl, zzl, trivial⟩ (memOk_box rfl rfl rfl (memOk_box rfl rfl zzi (memOk_new rfl (by decide) trivial)))) ?_
  have hlv := level_fn 6 (by decide) (by decide)
  repeat' first | refine zzs ?_ | refine zzb ?_ | refine zzk ?_
  refine tr_region (zzx hnt rfl ?_ (call rfl rfl rfl rfl rfl rfl rfl hnt (hlv) (zzx hnt rfl ?_ (Lex.nil _)))) ?_
  ·exact zza
  ·exact zza
  repeat' first | refine zzs ?_ | refine zzb ?_ | refine zzk ?_
  refine tr_cond rfl (fun hc => ?_) (fun hc => ?_)
  ·exact absurd (of_decide_eq_true hc) (by omega)
  repeat' first | refine zzs ?_ | refine zzb ?_ | refine zzk ?_
  refine tr_region (zzx hnt rfl ?_ (call rfl rfl rfl rfl rfl rfl rfl hnt (hlv) (zzx hnt rfl ?_ (Lex.nil _)))) ?_
  ·exact zza
  ·exact zza
  refine tr_le (s' := St.of [(7, .one (.e (eI (lvF 6)))), (2, .one (.ptr 2 0 0)), (5, .one (.ptr 5 0 0)), (6, .one (.clo 89 [(5, 0, 0)]))] [(2, ⟨0, .box (.es [eI 6, eI v.k, eI v.i, eQ v.b, eT v.t, eT n, .sl ((([a, b])).map eEx)]), 0⟩), (5, ⟨0, .box (.ds [.own 3000 0]), 0⟩), (3000, ⟨0, .row 4 (([]).map eTok), 0⟩)]) (le_of (ad := []) ⟨zzl, zzl, zzl, zzl, trivial⟩ (memOk_box rfl rfl rfl (memOk_box rfl rfl zzi (memOk_row rfl rfl rfl trivial)))) ?_
  repeat' (first | refine tr_seq ?_ | refine tr_block ?_ | refine tr_skip ?_ | refine reg (T := tab) tOk hnt rfl (by exact zzt) ?_ | refine regD (T := tab) tOk mixedR hnt rfl (by first | decide +kernel | kernel_rfl) (by exact zzt) ?_ | refine tr_cond rfl (fun hc => ?_) (fun hc => absurd (show true = false from hc) Bool.noConfusion) | refine tr_cond rfl (fun hc => absurd (show false = true from hc) Bool.noConfusion) (fun hc => ?_))
  have hk := iha (left 6)
  rw [← exAll a] at hk
  have hpu := put_fn ([]) (shF a (left 6)) (by first | (simp; done) | (simp; omega))
  repeat' first | refine zzs ?_ | refine zzb ?_ | refine zzk ?_
  refine tr_region (zzx hnt rfl ?_ (call rfl rfl rfl rfl rfl rfl rfl hnt (hk) (zzx hnt rfl ?_ (callH (us := []) [(900000, 5)] [(900001, 3000)] [(900001, 3000)] rfl rfl rfl rfl (hpu) (by repeat' first | exact .nil | refine .lent rfl rfl rfl ?_ | refine .data rfl ?_) (fun _ => rfl) rfl rfl hnt rfl rfl zzi zzi (zzx hnt rfl ?_ (Lex.nil _)))))) ?_
  ·exact zza
  ·exact zza
  ·exact zza
  refine tr_le (s' := St.of [(7, .one (.e (eI (lvF 6)))), (2, .one (.ptr 2 0 0)), (5, .one (.ptr 5 0 0)), (6, .one (.clo 89 [(5, 0, 0)]))] [(2, ⟨0, .box (.es [eI 6, eI v.k, eI v.i, eQ v.b, eT v.t, eT n, .sl ((([a, b])).map eEx)]), 0⟩), (5, ⟨0, .box (.ds [.own 3000 0]), 0⟩), (3000, ⟨0, .row 4 (((shF a (left 6))).map eTok), 0⟩)]) (le_of (ad := []) ⟨zzl, zzl, zzl, zzl, trivial⟩ (memOk_box rfl rfl rfl (memOk_box rfl rfl zzi (memOk_row rfl rfl rfl trivial)))) ?_
  have h1 := (mark_fn 6 (by decide))
  have hpu := put_fn ((shF a (left 6))) ([(mkS 6)]) (by first | (simp; done) | (simp; omega))
  repeat' first | refine zzs ?_ | refine zzb ?_ | refine zzk ?_
  refine tr_region (zzx hnt rfl ?_ (call rfl rfl rfl rfl rfl rfl rfl hnt (h1) (zzx hnt rfl ?_ (callH [(900000, 5)] [(900001, 3000)] [(900001, 3000)] rfl rfl rfl rfl (hpu) (by repeat' first | exact .nil | refine .lent rfl rfl rfl ?_ | refine argsData1 rfl ?_ | refine .data rfl ?_) (ver_upd1 rfl) rfl rfl hnt rfl rfl zzi zzi (zzx hnt rfl ?_ (Lex.nil _)))))) ?_
  ·exact zza
  ·exact zza
  ·exact zza
  refine tr_le (s' := St.of [(7, .one (.e (eI (lvF 6)))), (2, .one (.ptr 2 0 0)), (5, .one (.ptr 5 0 0)), (6, .one (.clo 89 [(5, 0, 0)]))] [(2, ⟨0, .box (.es [eI 6, eI v.k, eI v.i, eQ v.b, eT v.t, eT n, .sl ((([a, b])).map eEx)]), 0⟩), (5, ⟨0, .box (.ds [.own 3000 0]), 0⟩), (3000, ⟨0, .row 4 (((shF a (left 6) ++ [mkS 6])).map eTok), 0⟩)]) (le_of (ad := []) ⟨zzl, zzl, zzl, zzl, trivial⟩ (memOk_box rfl rfl rfl (memOk_box rfl rfl zzi (memOk_row rfl rfl rfl trivial)))) ?_
  have hk := ihb (lvF 6 + 1)
  rw [← exAll b] at hk
  have hpu := put_fn ((shF a (left 6) ++ [mkS 6])) (shF b (lvF 6 + 1)) (by first | (simp; done) | (simp; omega))
  repeat' first | refine zzs ?_ | refine zzb ?_ | refine zzk ?_
  refine tr_region (zzx hnt rfl ?_ (call rfl rfl rfl rfl rfl rfl rfl hnt (hk) (zzx hnt rfl ?_ (callH (us := []) [(900000, 5)] [(900001, 3000)] [(900001, 3000)] rfl rfl rfl rfl (hpu) (by repeat' first | exact .nil | refine .lent rfl rfl rfl ?_ | refine .data rfl ?_) (fun _ => rfl) rfl rfl hnt rfl rfl zzi zzi (zzx hnt rfl ?_ (Lex.nil _)))))) ?_
  ·exact zza
  ·exact zza
  ·exact zza
  repeat' first | refine zzs ?_ | refine zzr hnt rfl ?_ ?_ | refine zzd hnt rfl ?_ ?_ | refine zzb ?_ | refine zzk ?_
  ·exact zzt
  exact tr_ret ⟨.inr rfl, _, _, rfl, trivial, rfl⟩
 ·clear ho
  have fa : 0 + 7 ≤ (Cs.es (eEx a)).len := by have := ex7 a; show 0 + 7 ≤ (eEx a).length; omega
  have ga : (eEx a).length = 7 := ex7 a
  have na := lena (left 7)
  have fb : 0 + 7 ≤ (Cs.es (eEx b)).len := by have := ex7 b; show 0 + 7 ≤ (eEx b).length; omega
  have gb : (eEx b).length = 7 := ex7 b
  have nb := lenb (lvF 7 + 1)
  rw [eEx_mk]
  repeat' first | refine zzs ?_ | refine zzb ?_ | refine zzk ?_
  first | refine zzr hnt rfl ?_ ?_ | refine zzd hnt rfl ?_ ?_
  ·exact zzt
  repeat' first | refine zzs ?_ | refine zzb ?_ | refine zzk ?_
  first | refine zzr hnt rfl ?_ ?_ | refine zzd hnt rfl ?_ ?_
  ·exact zzt
  repeat' first | refine zzs ?_ | refine zzb ?_ | refine zzk ?_
  first | refine zzr hnt rfl ?_ ?_ | refine zzd hnt rfl ?_ ?_
  ·exact zzt
  refine tr_le (s' := St.of [(1, .one (.e (eI least))), (2, .one (.ptr 2 0 0)), (5, .one (.ptr 5 0 0)), (6, .one (.clo 89 [(5, 0, 0)]))] [(2, ⟨0, .box (.es [eI 7, eI v.k, eI v.i, eQ v.b, eT v.t, eT n, .sl ((([a, b])).map eEx)]), 0⟩), (5, ⟨0, .box (.ds [.own 3000 0]), 0⟩), (3000, ⟨0, .row 4 ([].map eTok), 0⟩)]) (le_of (ad := [3000]) ⟨zzl, zzl, zzl, zzl, trivial⟩ (memOk_box rfl rfl rfl (memOk_box rfl rfl zzi (memOk_new rfl (by decide) trivial)))) ?_
  have hlv := level_fn 7 (by decide) (by decide)
  repeat' first | refine zzs ?_ | refine zzb ?_ | refine zzk ?_
  refine tr_region (zzx hnt rfl ?_ (call rfl rfl rfl rfl rfl rfl rfl hnt (hlv) (zzx hnt rfl ?_ (Lex.nil _)))) ?_
  ·exact zza
  ·exact zza
  repeat' first | refine zzs ?_ | refine zzb ?_ | refine zzk ?_
  refine tr_cond rfl (fun hc => ?_) (fun hc => ?_)
  ·exact absurd (of_decide_eq_true hc) (by omega)
  repeat' first | refine zzs ?_ | refine zzb ?_ | refine zzk ?_
  refine tr_region (zzx hnt rfl ?_ (call rfl rfl rfl rfl rfl rfl rfl hnt (hlv) (zzx hnt rfl ?_ (Lex.nil _)))) ?_
  ·exact zza
  ·exact zza
  refine tr_le (s' := St.of [(7, .one (.e (eI (lvF 7)))), (2, .one (.ptr 2 0 0)), (5, .one (.ptr 5 0 0)), (6, .one (.clo 89 [(5, 0, 0)]))] [(2, ⟨0, .box (.es [eI 7, eI v.k, eI v.i, eQ v.b, eT v.t, eT n, .sl ((([a, b])).map eEx)]), 0⟩), (5, ⟨0, .box (.ds [.own 3000 0]), 0⟩), (3000, ⟨0, .row 4 (([]).map eTok), 0⟩)]) (le_of (ad := []) ⟨zzl, zzl, zzl, zzl, trivial⟩ (memOk_box rfl rfl rfl (memOk_box rfl rfl zzi (memOk_row rfl rfl rfl trivial)))) ?_
  repeat' (first | refine tr_seq ?_ | refine tr_block ?_ | refine tr_skip ?_ | refine reg (T := tab) tOk hnt rfl (by exact zzt) ?_ | refine regD (T := tab) tOk mixedR hnt rfl (by first | decide +kernel | kernel_rfl) (by exact zzt) ?_ | refine tr_cond rfl (fun hc => ?_) (fun hc => absurd (show true = false from hc) Bool.noConfusion) | refine tr_cond rfl (fun hc => absurd (show false = true from hc) Bool.noConfusion) (fun hc => ?_))
  have hk := iha (left 7)
  rw [← exAll a] at hk
  have hpu := put_fn ([]) (shF a (left 7)) (by first | (simp; done) | (simp; omega))
  repeat' first | refine zzs ?_ | refine zzb ?_ | refine zzk ?_
  refine tr_region (zzx hnt rfl ?_ (call rfl rfl rfl rfl rfl rfl rfl hnt (hk) (zzx hnt rfl ?_ (callH (us := []) [(900000, 5)] [(900001, 3000)] [(900001, 3000)] rfl rfl rfl rfl (hpu) (by repeat' first | exact .nil | refine .lent rfl rfl rfl ?_ | refine .data rfl ?_) (fun _ => rfl) rfl rfl hnt rfl rfl zzi zzi (zzx hnt rfl ?_ (Lex.nil _)))))) ?_
  ·exact zza
  ·exact zza
  ·exact zza
  refine tr_le (s' := St.of [(7, .one (.e (eI (lvF 7)))), (2, .one (.ptr 2 0 0)), (5, .one (.ptr 5 0 0)), (6, .one (.clo 89 [(5, 0, 0)]))] [(2, ⟨0, .box (.es [eI 7, eI v.k, eI v.i, eQ v.b, eT v.t, eT n, .sl ((([a, b])).map eEx)]), 0⟩), (5, ⟨0, .box (.ds [.own 3000 0]), 0⟩), (3000, ⟨0, .row 4 (((shF a (left 7))).map eTok), 0⟩)]) (le_of (ad := []) ⟨zzl, zzl, zzl, zzl, trivial⟩ (memOk_box rfl rfl rfl (memOk_box rfl rfl zzi (memOk_row rfl rfl rfl trivial)))) ?_
  have h1 := (mark_fn 7 (by decide))
  have hpu := put_fn ((shF a (left 7))) ([(mkS 7)]) (by first | (simp; done) | (simp; omega))
  repeat' first | refine zzs ?_ | refine zzb ?_ | refine zzk ?_
  refine tr_region (zzx hnt rfl ?_ (call rfl rfl rfl rfl rfl rfl rfl hnt (h1) (zzx hnt rfl ?_ (callH [(900000, 5)] [(900001, 3000)] [(900001, 3000)] rfl rfl rfl rfl (hpu) (by repeat' first | exact .nil | refine .lent rfl rfl rfl ?_ | refine argsData1 rfl ?_ | refine .data rfl ?_) (ver_upd1 rfl) rfl rfl hnt rfl rfl zzi zzi (zzx hnt rfl ?_ (Lex.nil _)))))) ?_
  ·exact zza
  ·exact zza
  ·exact zza
  refine tr_le (s' := St.of [(7, .one (.e (eI (lvF 7)))), (2, .one (.ptr 2 0 0)), (5, .one (.ptr 5 0 0)), (6, .one (.clo 89 [(5, 0, 0)]))] [(2, ⟨0, .box (.es [eI 7, eI v.k, eI v.i, eQ v.b, eT v.t, eT n, .sl ((([a, b])).map eEx)]), 0⟩), (5, ⟨0, .box (.ds [.own 3000 0]), 0⟩), (3000, ⟨0, .row 4 (((shF a (left 7) ++ [mkS 7])).map eTok), 0⟩)]) (le_of (ad := []) ⟨zzl, zzl, zzl, zzl, trivial⟩ (memOk_box rfl rfl rfl (memOk_box rfl rfl zzi (memOk_row rfl rfl rfl trivial)))) ?_
  have hk := ihb (lvF 7 + 1)
  rw [← exAll b] at hk
  have hpu := put_fn ((shF a (left 7) ++ [mkS 7])) (shF b (lvF 7 + 1)) (by first | (simp; done) | (simp; omega))
  repeat' first | refine zzs ?_ | refine zzb ?_ | refine zzk ?_
  refine tr_region (zzx hnt rfl ?_ (call rfl rfl rfl rfl rfl rfl rfl hnt (hk) (zzx hnt rfl ?_ (callH (us := []) [(900000, 5)] [(900001, 3000)] [(900001, 3000)] rfl rfl rfl rfl (hpu) (by repeat' first | exact .nil | refine .lent rfl rfl rfl ?_ | refine .data rfl ?_) (fun _ => rfl) rfl rfl hnt rfl rfl zzi zzi (zzx hnt rfl ?_ (Lex.nil _)))))) ?_
  ·exact zza
  ·exact zza
  ·exact zza
  repeat' first | refine zzs ?_ | refine zzr hnt rfl ?_ ?_ | refine zzd hnt rfl ?_ ?_ | refine zzb ?_ | refine zzk ?_
  ·exact zzt
  exact tr_ret ⟨.inr rfl, _, _, rfl, trivial, rfl⟩
 ·clear ho
  have fa : 0 + 7 ≤ (Cs.es (eEx a)).len := by have := ex7 a; show 0 + 7 ≤ (eEx a).length; omega
  have ga : (eEx a).length = 7 := ex7 a
  have na := lena (left 8)
  have fb : 0 + 7 ≤ (Cs.es (eEx b)).len := by have := ex7 b; show 0 + 7 ≤ (eEx b).length; omega
  have gb : (eEx b).length = 7 := ex7 b
  have nb := lenb (lvF 8 + 1)
  rw [eEx_mk]
  repeat' first | refine zzs ?_ | refine zzb ?_ | refine zzk ?_
  first | refine zzr hnt rfl ?_ ?_ | refine zzd hnt rfl ?_ ?_
  ·exact zzt
  repeat' first | refine zzs ?_ | refine zzb ?_ | refine zzk ?_
  first | refine zzr hnt rfl ?_ ?_ | refine zzd hnt rfl ?_ ?_
  ·exact zzt
  repeat' first | refine zzs ?_ | refine zzb ?_ | refine zzk ?_
  first | refine zzr hnt rfl ?_ ?_ | refine zzd hnt rfl ?_ ?_
  ·exact zzt
  refine tr_le (s' := St.of [(1, .one (.e (eI least))), (2, .one (.ptr 2 0 0)), (5, .one (.ptr 5 0 0)), (6, .one (.clo 89 [(5, 0, 0)]))] [(2, ⟨0, .box (.es [eI 8, eI v.k, eI v.i, eQ v.b, eT v.t, eT n, .sl ((([a, b])).map eEx)]), 0⟩), (5, ⟨0, .box (.ds [.own 3000 0]), 0⟩), (3000, ⟨0, .row 4 ([].map eTok), 0⟩)]) (le_of (ad := [3000]) ⟨zzl, zzl, zzl, zzl, trivial⟩ (memOk_box rfl rfl rfl (memOk_box rfl rfl zzi (memOk_new rfl (by decide) trivial)))) ?_
  have hlv := level_fn 8 (by decide) (by decide)
  repeat' first | refine zzs ?_ | refine zzb ?_ | refine zzk ?_
  refine tr_region (zzx hnt rfl ?_ (call rfl rfl rfl rfl rfl rfl rfl hnt (hlv) (zzx hnt rfl ?_ (Lex.nil _)))) ?_
  ·exact zza
  ·exact zza
  repeat' first | refine zzs ?_ | refine zzb ?_ | refine zzk ?_
  refine tr_cond rfl (fun hc => ?_) (fun hc => ?_)
  ·exact absurd (of_decide_eq_true hc) (by omega)
  repeat' first | refine zzs ?_ | refine zzb ?_ | refine zzk ?_
  refine tr_region (zzx hnt rfl ?_ (call rfl rfl rfl rfl rfl rfl rfl hnt (hlv) (zzx hnt rfl ?_ (Lex.nil _)))) ?_
  ·exact zza
  ·exact zza
  refine tr_le (s' := St.of [(7, .one (.e (eI (lvF 8)))), (2, .one (.ptr 2 0 0)), (5, .one (.ptr 5 0 0)), (6, .one (.clo 89 [(5, 0, 0)]))] [(2, ⟨0, .box (.es [eI 8, eI v.k, eI v.i, eQ v.b, eT v.t, eT n, .sl ((([a, b])).map eEx)]), 0⟩), (5, ⟨0, .box (.ds [.own 3000 0]), 0⟩), (3000, ⟨0, .row 4 (([]).map eTok), 0⟩)]) (le_of (ad := []) ⟨zzl, zzl, zzl, zzl, trivial⟩ (memOk_box rfl rfl rfl (memOk_box rfl rfl zzi (memOk_row rfl rfl rfl trivial)))) ?_
  repeat' (first | refine tr_seq ?_ | refine tr_block ?_ | refine tr_skip ?_ | refine reg (T := tab) tOk hnt rfl (by exact zzt) ?_ | refine regD (T := tab) tOk mixedR hnt rfl (by first | decide +kernel | kernel_rfl) (by exact zzt) ?_ | refine tr_cond rfl (fun hc => ?_) (fun hc => absurd (show true = false from hc) Bool.noConfusion) | refine tr_cond rfl (fun hc => absurd (show false = true from hc) Bool.noConfusion) (fun hc => ?_))
  have hk := iha (left 8)
  rw [← exAll a] at hk
  have hpu := put_fn ([]) (shF a (left 8)) (by first | (simp; done) | (simp; omega))
  repeat' first | refine zzs ?_ | refine zzb ?_ | refine zzk ?_
  refine tr_region (zzx hnt rfl ?_ (call rfl rfl rfl rfl rfl rfl rfl hnt (hk) (zzx hnt rfl ?_ (callH (us := []) [(900000, 5)] [(900001, 3000)] [(900001, 3000)] rfl rfl rfl rfl (hpu) (by repeat' first | exact .nil | refine .lent rfl rfl rfl ?_ | refine .data rfl ?_) (fun _ => rfl) rfl rfl hnt rfl rfl zzi zzi (zzx hnt rfl ?_ (Lex.nil _)))))) ?_
  ·exact zza
  ·exact zza
  ·exact zza
  refine tr_le (s' := St.of [(7, .one (.e (eI (lvF 8)))), (2, .one (.ptr 2 0 0)), (5, .one (.ptr 5 0 0)), (6, .one (.clo 89 [(5, 0, 0)]))] [(2, ⟨0, .box (.es [eI 8, eI v.k, eI v.i, eQ v.b, eT v.t, eT n, .sl ((([a, b])).map eEx)]), 0⟩), (5, ⟨0, .box (.ds [.own 3000 0]), 0⟩), (3000, ⟨0, .row 4 (((shF a (left 8))).map eTok), 0⟩)]) (le_of (ad := []) ⟨zzl, zzl, zzl, zzl, trivial⟩ (memOk_box rfl rfl rfl (memOk_box rfl rfl zzi (memOk_row rfl rfl rfl trivial)))) ?_
  have h1 := (mark_fn 8 (by decide))
  have hpu := put_fn ((shF a (left 8))) ([(mkS 8)]) (by first | (simp; done) | (simp; omega))
  repeat' first | refine zzs ?_ | refine zzb ?_ | refine zzk ?_
  refine tr_region (zzx hnt rfl ?_ (call rfl rfl rfl rfl rfl rfl rfl hnt (h1) (zzx hnt rfl ?_ (callH [(900000, 5)] [(900001, 3000)] [(900001, 3000)] rfl rfl rfl rfl (hpu) (by repeat' first | exact .nil | refine .lent rfl rfl rfl ?_ | refine argsData1 rfl ?_ | refine .data rfl ?_) (ver_upd1 rfl) rfl rfl hnt rfl rfl zzi zzi (zzx hnt rfl ?_ (Lex.nil _)))))) ?_
  ·exact zza
  ·exact zza
  ·exact zza
  refine tr_le (s' := St.of [(7, .one (.e (eI (lvF 8)))), (2, .one (.ptr 2 0 0)), (5, .one (.ptr 5 0 0)), (6, .one (.clo 89 [(5, 0, 0)]))] [(2, ⟨0, .box (.es [eI 8, eI v.k, eI v.i, eQ v.b, eT v.t, eT n, .sl ((([a, b])).map eEx)]), 0⟩), (5, ⟨0, .box (.ds [.own 3000 0]), 0⟩), (3000, ⟨0, .row 4 (((shF a (left 8) ++ [mkS 8])).map eTok), 0⟩)]) (le_of (ad := []) ⟨zzl, zzl, zzl, zzl, trivial⟩ (memOk_box rfl rfl rfl (memOk_box rfl rfl zzi (memOk_row rfl rfl rfl trivial)))) ?_
  have hk := ihb (lvF 8 + 1)
  rw [← exAll b] at hk
  have hpu := put_fn ((shF a (left 8) ++ [mkS 8])) (shF b (lvF 8 + 1)) (by first | (simp; done) | (simp; omega))
  repeat' first | refine zzs ?_ | refine zzb ?_ | refine zzk ?_
  refine tr_region (zzx hnt rfl ?_ (call rfl rfl rfl rfl rfl rfl rfl hnt (hk) (zzx hnt rfl ?_ (callH (us := []) [(900000, 5)] [(900001, 3000)] [(900001, 3000)] rfl rfl rfl rfl (hpu) (by repeat' first | exact .nil | refine .lent rfl rfl rfl ?_ | refine .data rfl ?_) (fun _ => rfl) rfl rfl hnt rfl rfl zzi zzi (zzx hnt rfl ?_ (Lex.nil _)))))) ?_
  ·exact zza
  ·exact zza
  ·exact zza
  repeat' first | refine zzs ?_ | refine zzr hnt rfl ?_ ?_ | refine zzd hnt rfl ?_ ?_ | refine zzb ?_ | refine zzk ?_
  ·exact zzt
  exact tr_ret ⟨.inr rfl, _, _, rfl, trivial, rfl⟩
 ·clear ho
  have fa : 0 + 7 ≤ (Cs.es (eEx a)).len := by have := ex7 a; show 0 + 7 ≤ (eEx a).length; omega
  have ga : (eEx a).length = 7 := ex7 a
  have na := lena (left 9)
  have fb : 0 + 7 ≤ (Cs.es (eEx b)).len := by have := ex7 b; show 0 + 7 ≤ (eEx b).length; omega
  have gb : (eEx b).length = 7 := ex7 b
  have nb := lenb (lvF 9 + 1)
  rw [eEx_mk]
  repeat' first | refine zzs ?_ | refine zzb ?_ | refine zzk ?_
  first | refine zzr hnt rfl ?_ ?_ | refine zzd hnt rfl ?_ ?_
  ·exact zzt
  repeat' first | refine zzs ?_ | refine zzb ?_ | refine zzk ?_
  first | refine zzr hnt rfl ?_ ?_ | refine zzd hnt rfl ?_ ?_
  ·exact zzt
  repeat' first | refine zzs ?_ | refine zzb ?_ | refine zzk ?_
  first | refine zzr hnt rfl ?_ ?_ | refine zzd hnt rfl ?_ ?_
  ·exact zzt
  refine tr_le (s' := St.of [(1, .one (.e (eI least))), (2, .one (.ptr 2 0 0)), (5, .one (.ptr 5 0 0)), (6, .one (.clo 89 [(5, 0, 0)]))] [(2, ⟨0, .box (.es [eI 9, eI v.k, eI v.i, eQ v.b, eT v.t, eT n, .sl ((([a, b])).map eEx)]), 0⟩), (5, ⟨0, .box (.ds [.own 3000 0]), 0⟩), (3000, ⟨0, .row 4 ([].map eTok), 0⟩)]) (le_of (ad := [3000]) ⟨zzl, zzl, zzl, zzl, trivial⟩ (memOk_box rfl rfl rfl (memOk_box rfl rfl zzi (memOk_new rfl (by decide) trivial)))) ?_
  have hlv := level_fn 9 (by decide) (by decide)
  repeat' first | refine zzs ?_ | refine zzb ?_ | refine zzk ?_
  refine tr_region (zzx hnt rfl ?_ (call rfl rfl rfl rfl rfl rfl rfl hnt (hlv) (zzx hnt rfl ?_ (Lex.nil _)))) ?_
  ·exact zza
  ·exact zza
  repeat' first | refine zzs ?_ | refine zzb ?_ | refine zzk ?_
  refine tr_cond rfl (fun hc => ?_) (fun hc => ?_)
  ·exact absurd (of_decide_eq_true hc) (by omega)
  repeat' first | refine zzs ?_ | refine zzb ?_ | refine zzk ?_
  refine tr_region (zzx hnt rfl ?_ (call rfl rfl rfl rfl rfl rfl rfl hnt (hlv) (zzx hnt rfl ?_ (Lex.nil _)))) ?_
  ·exact zza
  ·exact zza
  refine tr_le (s' := St.of [(7, .one (.e (eI (lvF 9)))), (2, .one (.ptr 2 0 0)), (5, .one (.ptr 5 0 0)), (6, .one (.clo 89 [(5, 0, 0)]))] [(2, ⟨0, .box (.es [eI 9, eI v.k, eI v.i, eQ v.b, eT v.t, eT n, .sl ((([a, b])).map eEx)]), 0⟩), (5, ⟨0, .box (.ds [.own 3000 0]), 0⟩), (3000, ⟨0, .row 4 (([]).map eTok), 0⟩)]) (le_of (ad := []) ⟨zzl, zzl, zzl, zzl, trivial⟩ (memOk_box rfl rfl rfl (memOk_box rfl rfl zzi (memOk_row rfl rfl rfl trivial)))) ?_
  repeat' (first | refine tr_seq ?_ | refine tr_block ?_ | refine tr_skip ?_ | refine reg (T := tab) tOk hnt rfl (by exact zzt) ?_ | refine regD (T := tab) tOk mixedR hnt rfl (by first | decide +kernel | kernel_rfl) (by exact zzt) ?_ | refine tr_cond rfl (fun hc => ?_) (fun hc => absurd (show true = false from hc) Bool.noConfusion) | refine tr_cond rfl (fun hc => absurd (show false = true from hc) Bool.noConfusion) (fun hc => ?_))
  have hk := iha (left 9)
  rw [← exAll a] at hk
  have hpu := put_fn ([]) (shF a (left 9)) (by first | (simp; done) | (simp; omega))
  repeat' first | refine zzs ?_ | refine zzb ?_ | refine zzk ?_
  refine tr_region (zzx hnt rfl ?_ (call rfl rfl rfl rfl rfl rfl rfl hnt (hk) (zzx hnt rfl ?_ (callH (us := []) [(900000, 5)] [(900001, 3000)] [(900001, 3000)] rfl rfl rfl rfl (hpu) (by repeat' first | exact .nil | refine .lent rfl rfl rfl ?_ | refine .data rfl ?_) (fun _ => rfl) rfl rfl hnt rfl rfl zzi zzi (zzx hnt rfl ?_ (Lex.nil _)))))) ?_
  ·exact zza
  ·exact zza
  ·exact zza
  refine tr_le (s' := St.of [(7, .one (.e (eI (lvF 9)))), (2, .one (.ptr 2 0 0)), (5, .one (.ptr 5 0 0)), (6, .one (.clo 89 [(5, 0, 0)]))] [(2, ⟨0, .box (.es [eI 9, eI v.k, eI v.i, eQ v.b, eT v.t, eT n, .sl ((([a, b])).map eEx)]), 0⟩), (5, ⟨0, .box (.ds [.own 3000 0]), 0⟩), (3000, ⟨0, .row 4 (((shF a (left 9))).map eTok), 0⟩)]) (le_of (ad := []) ⟨zzl, zzl, zzl, zzl, trivial⟩ (memOk_box rfl rfl rfl (memOk_box rfl rfl zzi (memOk_row rfl rfl rfl trivial)))) ?_
  have h1 := (mark_fn 9 (by decide))
  have hpu := put_fn ((shF a (left 9))) ([(mkS 9)]) (by first | (simp; done) | (simp; omega))
  repeat' first | refine zzs ?_ | refine zzb ?_ | refine zzk ?_
  refine tr_region (zzx hnt rfl ?_ (call rfl rfl rfl rfl rfl rfl rfl hnt (h1) (zzx hnt rfl ?_ (callH [(900000, 5)] [(900001, 3000)] [(900001, 3000)] rfl rfl rfl rfl (hpu) (by repeat' first | exact .nil | refine .lent rfl rfl rfl ?_ | refine argsData1 rfl ?_ | refine .data rfl ?_) (ver_upd1 rfl) rfl rfl hnt rfl rfl zzi zzi (zzx hnt rfl ?_ (Lex.nil _)))))) ?_
  ·exact zza
  ·exact zza
  ·exact zza
  refine tr_le (s' := St.of [(7, .one (.e (eI (lvF 9)))), (2, .one (.ptr 2 0 0)), (5, .one (.ptr 5 0 0)), (6, .one (.clo 89 [(5, 0, 0)]))] [(2, ⟨0, .box (.es [eI 9, eI v.k, eI v.i, eQ v.b, eT v.t, eT n, .sl ((([a, b])).map eEx)]), 0⟩), (5, ⟨0, .box (.ds [.own 3000 0]), 0⟩), (3000, ⟨0, .row 4 (((shF a (left 9) ++ [mkS 9])).map eTok), 0⟩)]) (le_of (ad := []) ⟨zzl, zzl, zzl, zzl, trivial⟩ (memOk_box rfl rfl rfl (memOk_box rfl rfl zzi (memOk_row rfl rfl rfl trivial)))) ?_
  have hk := ihb (lvF 9 + 1)
  rw [← exAll b] at hk
  have hpu := put_fn ((shF a (left 9) ++ [mkS 9])) (shF b (lvF 9 + 1)) (by first | (simp; done) | (simp; omega))
  repeat' first | refine zzs ?_ | refine zzb ?_ | refine zzk ?_
  refine tr_region (zzx hnt rfl ?_ (call rfl rfl rfl rfl rfl rfl rfl hnt (hk) (zzx hnt rfl ?_ (callH (us := []) [(900000, 5)] [(900001, 3000)] [(900001, 3000)] rfl rfl rfl rfl (hpu) (by repeat' first | exact .nil | refine .lent rfl rfl rfl ?_ | refine .data rfl ?_) (fun _ => rfl) rfl rfl hnt rfl rfl zzi zzi (zzx hnt rfl ?_ (Lex.nil _)))))) ?_
  ·exact zza
  ·exact zza
  ·exact zza
  repeat' first | refine zzs ?_ | refine zzr hnt rfl ?_ ?_ | refine zzd hnt rfl ?_ ?_ | refine zzb ?_ | refine zzk ?_
  ·exact zzt
  exact tr_ret ⟨.inr rfl, _, _, rfl, trivial, rfl⟩
 ·clear ho
  have fa : 0 + 7 ≤ (Cs.es (eEx a)).len := by have := ex7 a; show 0 + 7 ≤ (eEx a).length; omega
  have ga : (eEx a).length = 7 := ex7 a
  have na := lena (left 10)
  have fb : 0 + 7 ≤ (Cs.es (eEx b)).len := by have := ex7 b; show 0 + 7 ≤ (eEx b).length; omega
  have gb : (eEx b).length = 7 := ex7 b
  have nb := lenb (lvF 10 + 1)
  rw [eEx_mk]
  repeat' first | refine zzs ?_ | refine zzb ?_ | refine zzk ?_
  first | refine zzr hnt rfl ?_ ?_ | refine zzd hnt rfl ?_ ?_
  ·exact zzt
  repeat' first | refine zzs ?_ | refine zzb ?_ | refine zzk ?_
  first | refine zzr hnt rfl ?_ ?_ | refine zzd hnt rfl ?_ ?_
  ·exact zzt
  repeat' first | refine zzs ?_ | refine zzb ?_ | refine zzk ?_
  first | refine zzr hnt rfl ?_ ?_ | refine zzd hnt rfl ?_ ?_
  ·exact zzt
  refine tr_le (s' := St.of [(1, .one (.e (eI least))), (2, .one (.ptr 2 0 0)), (5, .one (.ptr 5 0 0)), (6, .one (.clo 89 [(5, 0, 0)]))] [(2, ⟨0, .box (.es [eI 10, eI v.k, eI v.i, eQ v.b, eT v.t, eT n, .sl ((([a, b])).map eEx)]), 0⟩), (5, ⟨0, .box (.ds [.own 3000 0]), 0⟩), (3000, ⟨0, .row 4 ([].map eTok), 0⟩)]) (le_of (ad := [3000]) ⟨zzl, zzl, zzl, zzl, trivial⟩ (memOk_box rfl rfl rfl (memOk_box rfl rfl zzi (memOk_new rfl (by decide) trivial)))) ?_
  have hlv := level_fn 10 (by decide) (by decide)
  repeat' first | refine zzs ?_ | refine zzb ?_ | refine zzk ?_
  refine tr_region (zzx hnt rfl ?_ (call rfl rfl rfl rfl rfl rfl rfl hnt (hlv) (zzx hnt rfl ?_ (Lex.nil _)))) ?_
  ·exact zza
  ·exact zza
  repeat' first | refine zzs ?_ | refine zzb ?_ | refine zzk ?_
  refine tr_cond rfl (fun hc => ?_) (fun hc => ?_)
  ·exact absurd (of_decide_eq_true hc) (by omega)
  repeat' first | refine zzs ?_ | refine zzb ?_ | refine zzk ?_
  refine tr_region (zzx hnt rfl ?_ (call rfl rfl rfl rfl rfl rfl rfl hnt (hlv) (zzx hnt rfl ?_ (Lex.nil _)))) ?_
  ·exact zza
  ·exact zza
  refine tr_le (s' := St.of [(7, .one (.e (eI (lvF 10)))), (2, .one (.ptr 2 0 0)), (5, .one (.ptr 5 0 0)), (6, .one (.clo 89 [(5, 0, 0)]))] [(2, ⟨0, .box (.es [eI 10, eI v.k, eI v.i, eQ v.b, eT v.t, eT n, .sl ((([a, b])).map eEx)]), 0⟩), (5, ⟨0, .box (.ds [.own 3000 0]), 0⟩), (3000, ⟨0, .row 4 (([]).map eTok), 0⟩)]) (le_of (ad := []) ⟨zzl, zzl, zzl, zzl, trivial⟩ (memOk_box rfl rfl rfl (memOk_box rfl rfl zzi (memOk_row rfl rfl rfl trivial)))) ?_
  repeat' (first | refine tr_seq ?_ | refine tr_block ?_ | refine tr_skip ?_ | refine reg (T := tab) tOk hnt rfl (by exact zzt) ?_ | refine regD (T := tab) tOk mixedR hnt rfl (by first | decide +kernel | kernel_rfl) (by exact zzt) ?_ | refine tr_cond rfl (fun hc => ?_) (fun hc => absurd (show true = false from hc) Bool.noConfusion) | refine tr_cond rfl (fun hc => absurd (show false = true from hc) Bool.noConfusion) (fun hc => ?_))
  have hk := iha (left 10)
  rw [← exAll a] at hk
  have hpu := put_fn ([]) (shF a (left 10)) (by first | (simp; done) | (simp; omega))
  repeat' first | refine zzs ?_ | refine zzb ?_ | refine zzk ?_
  refine tr_region (zzx hnt rfl ?_ (call rfl rfl rfl rfl rfl rfl rfl hnt (hk) (zzx hnt rfl ?_ (callH (us := []) [(900000, 5)] [(900001, 3000)] [(900001, 3000)] rfl rfl rfl rfl (hpu) (by repeat' first | exact .nil | refine .lent rfl rfl rfl ?_ | refine .data rfl ?_) (fun _ => rfl) rfl rfl hnt rfl rfl zzi zzi (zzx hnt rfl ?_ (Lex.nil _)))))) ?_
  ·exact zza
  ·exact zza
  ·exact zza
  refine tr_le (s' := St.of [(7, .one (.e (eI (lvF 10)))), (2, .one (.ptr 2 0 0)), (5, .one (.ptr 5 0 0)), (6, .one (.clo 89 [(5, 0, 0)]))] [(2, ⟨0, .box (.es [eI 10, eI v.k, eI v.i, eQ v.b, eT v.t, eT n, .sl ((([a, b])).map eEx)]), 0⟩), (5, ⟨0, .box (.ds [.own 3000 0]), 0⟩), (3000, ⟨0, .row 4 (((shF a (left 10))).map eTok), 0⟩)]) (le_of (ad := []) ⟨zzl, zzl, zzl, zzl, trivial⟩ (memOk_box rfl rfl rfl (memOk_box rfl rfl zzi (memOk_row rfl rfl rfl trivial)))) ?_
  have h1 := (mark_fn 10 (by decide))
  have hpu := put_fn ((shF a (left 10))) ([(mkS 10)]) (by first | (simp; done) | (simp; omega))
  repeat' first | refine zzs ?_ | refine zzb ?_ | refine zzk ?_
  refine tr_region (zzx hnt rfl ?_ (call rfl rfl rfl rfl rfl rfl rfl hnt (h1) (zzx hnt rfl ?_ (callH [(900000, 5)] [(900001, 3000)] [(900001, 3000)] rfl rfl rfl rfl (hpu) (by repeat' first | exact .nil | refine .lent rfl rfl rfl ?_ | refine argsData1 rfl ?_ | refine .data rfl ?_) (ver_upd1 rfl) rfl rfl hnt rfl rfl zzi zzi (zzx hnt rfl ?_ (Lex.nil _)))))) ?_
  ·exact zza
  ·exact zza
  ·exact zza
  refine tr_le (s' := St.of [(7, .one (.e (eI (lvF 10)))), (2, .one (.ptr 2 0 0)), (5, .one (.ptr 5 0 0)), (6, .one (.clo 89 [(5, 0, 0)]))] [(2, ⟨0, .box (.es [eI 10, eI v.k, eI v.i, eQ v.b, eT v.t, eT n, .sl ((([a, b])).map eEx)]), 0⟩), (5, ⟨0, .box (.ds [.own 3000 0]), 0⟩), (3000, ⟨0, .row 4 (((shF a (left 10) ++ [mkS 10])).map eTok), 0⟩)]) (le_of (ad := []) ⟨zzl, zzl, zzl, zzl, trivial⟩ (memOk_box rfl rfl rfl (memOk_box rfl rfl zzi (memOk_row rfl rfl rfl trivial)))) ?_
  have hk := ihb (lvF 10 + 1)
  rw [← exAll b] at hk
  have hpu := put_fn ((shF a (left 10) ++ [mkS 10])) (shF b (lvF 10 + 1)) (by first | (simp; done) | (simp; omega))
  repeat' first | refine zzs ?_ | refine zzb ?_ | refine zzk ?_
  refine tr_region (zzx hnt rfl ?_ (call rfl rfl rfl rfl rfl rfl rfl hnt (hk) (zzx hnt rfl ?_ (callH (us := []) [(900000, 5)] [(900001, 3000)] [(900001, 3000)] rfl rfl rfl rfl (hpu) (by repeat' first | exact .nil | refine .lent rfl rfl rfl ?_ | refine .data rfl ?_) (fun _ => rfl) rfl rfl hnt rfl rfl zzi zzi (zzx hnt rfl ?_ (Lex.nil _)))))) ?_
  ·exact zza
  ·exact zza
  ·exact zza
  repeat' first | refine zzs ?_ | refine zzr hnt rfl ?_ ?_ | refine zzd hnt rfl ?_ ?_ | refine zzb ?_ | refine zzk ?_
  ·exact zzt
  exact tr_ret ⟨.inr rfl, _, _, rfl, trivial, rfl⟩
 ·clear ho
  have fa : 0 + 7 ≤ (Cs.es (eEx a)).len := by have := ex7 a; show 0 + 7 ≤ (eEx a).length; omega
  have ga : (eEx a).length = 7 := ex7 a
  have na := lena (left 11)
  have fb : 0 + 7 ≤ (Cs.es (eEx b)).len := by have := ex7 b; show 0 + 7 ≤ (eEx b).length; omega
  have gb : (eEx b).length = 7 := ex7 b
  have nb := lenb (lvF 11 + 1)
  rw [eEx_mk]
  repeat' first | refine zzs ?_ | refine zzb ?_ | refine zzk ?_
  first | refine zzr hnt rfl ?_ ?_ | refine zzd hnt rfl ?_ ?_
  ·exact zzt
  repeat' first | refine zzs ?_ | refine zzb ?_ | refine zzk ?_
  first | refine zzr hnt rfl ?_ ?_ | refine zzd hnt rfl ?_ ?_
  ·exact zzt
  repeat' first | refine zzs ?_ | refine zzb ?_ | refine zzk ?_
  first | refine zzr hnt rfl ?_ ?_ | refine zzd hnt rfl ?_ ?_
  ·exact zzt
  refine tr_le (s' := St.of [(1, .one (.e (eI least))), (2, .one (.ptr 2 0 0)), (5, .one (.ptr 5 0 0)), (6, .one (.clo 89 [(5, 0, 0)]))] [(2, ⟨0, .box (.es [eI 11, eI v.k, eI v.i, eQ v.b, eT v.t, eT n, .sl ((([a, b])).map eEx)]), 0⟩), (5, ⟨0, .box (.ds [.own 3000 0]), 0⟩), (3000, ⟨0, .row 4 ([].map eTok), 0⟩)]) (le_of (ad := [3000]) ⟨zzl, zzl, zzl, zzl, trivial⟩ (memOk_box rfl rfl rfl (memOk_box rfl rfl zzi (memOk_new rfl (by decide) trivial)))) ?_
  have hlv := level_fn 11 (by decide) (by decide)
  repeat' first | refine zzs ?_ | refine zzb ?_ | refine zzk ?_
  refine tr_region (zzx hnt rfl ?_ (call rfl rfl rfl rfl rfl rfl rfl hnt (hlv) (zzx hnt rfl ?_ (Lex.nil _)))) ?_
  ·exact zza
  ·exact zza
  repeat' first | refine zzs ?_ | refine zzb ?_ | refine zzk ?_
  refine tr_cond rfl (fun hc => ?_) (fun hc => ?_)
  ·exact absurd (of_decide_eq_true hc) (by omega)
  repeat' first | refine zzs ?_ | refine zzb ?_ | refine zzk ?_
  refine tr_region (zzx hnt rfl ?_ (call rfl rfl rfl rfl rfl rfl rfl hnt (hlv) (zzx hnt rfl ?_ (Lex.nil _)))) ?_
  ·exact zza
  ·exact zza
  refine tr_le (s' := St.of [(7, .one (.e (eI (lvF 11)))), (2, .one (.ptr 2 0 0)), (5, .one (.ptr 5 0 0)), (6, .one (.clo 89 [(5, 0, 0)]))] [(2, ⟨0, .box (.es [eI 11, eI v.k, eI v.i, eQ v.b, eT v.t, eT n, .sl ((([a, b])).map eEx)]), 0⟩), (5, ⟨0, .box (.ds [.own 3000 0]), 0⟩), (3000, ⟨0, .row 4 (([]).map eTok), 0⟩)]) (le_of (ad := []) ⟨zzl, zzl, zzl, zzl, trivial⟩ (memOk_box rfl rfl rfl (memOk_box rfl rfl zzi (memOk_row rfl rfl rfl trivial)))) ?_
  repeat' (first | refine tr_seq ?_ | refine tr_block ?_ | refine tr_skip ?_ | refine reg (T := tab) tOk hnt rfl (by exact zzt) ?_ | refine regD (T := tab) tOk mixedR hnt rfl (by first | decide +kernel | kernel_rfl) (by exact zzt) ?_ | refine tr_cond rfl (fun hc => ?_) (fun hc => absurd (show true = false from hc) Bool.noConfusion) | refine tr_cond rfl (fun hc => absurd (show false = true from hc) Bool.noConfusion) (fun hc => ?_))
  have hk := iha (left 11)
  rw [← exAll a] at hk
  have hpu := put_fn ([]) (shF a (left 11)) (by first | (simp; done) | (simp; omega))
  repeat' first | refine zzs ?_ | refine zzb ?_ | refine zzk ?_
  refine tr_region (zzx hnt rfl ?_ (call rfl rfl rfl rfl rfl rfl rfl hnt (hk) (zzx hnt rfl ?_ (callH (us := []) [(900000, 5)] [(900001, 3000)] [(900001, 3000)] rfl rfl rfl rfl (hpu) (by repeat' first | exact .nil | refine .lent rfl rfl rfl ?_ | refine .data rfl ?_) (fun _ => rfl) rfl rfl hnt rfl rfl zzi zzi (zzx hnt rfl ?_ (Lex.nil _)))))) ?_
  ·exact zza
  ·exact zza
  ·exact zza
  refine tr_le (s' := St.of [(7, .one (.e (eI (lvF 11)))), (2, .one (.ptr 2 0 0)), (5, .one (.ptr 5 0 0)), (6, .one (.clo 89 [(5, 0, 0)]))] [(2, ⟨0, .box (.es [eI 11, eI v.k, eI v.i, eQ v.b, eT v.t, eT n, .sl ((([a, b])).map eEx)]), 0⟩), (5, ⟨0, .box (.ds [.own 3000 0]), 0⟩), (3000, ⟨0, .row 4 (((shF a (left 11))).map eTok), 0⟩)]) (le_of (ad := []) ⟨zzl, zzl, zzl, zzl, trivial⟩ (memOk_box rfl rfl rfl (memOk_box rfl rfl zzi (memOk_row rfl rfl rfl trivial)))) ?_
  have h1 := (mark_fn 11 (by decide))
  have hpu := put_fn ((shF a (left 11))) ([(mkS 11)]) (by first | (simp; done) | (simp; omega))
  repeat' first | refine zzs ?_ | refine zzb ?_ | refine zzk ?_
  refine tr_region (zzx hnt rfl ?_ (call rfl rfl rfl rfl rfl rfl rfl hnt (h1) (zzx hnt rfl ?_ (callH [(900000, 5)] [(900001, 3000)] [(900001, 3000)] rfl rfl rfl rfl (hpu) (by repeat' first | exact .nil | refine .lent rfl rfl rfl ?_ | refine argsData1 rfl ?_ | refine .data rfl ?_) (ver_upd1 rfl) rfl rfl hnt rfl rfl zzi zzi (zzx hnt rfl ?_ (Lex.nil _)))))) ?_
  ·exact zza
  ·exact zza
  ·exact zza
  refine tr_le (s' := St.of [(7, .one (.e (eI (lvF 11)))), (2, .one (.ptr 2 0 0)), (5, .one (.ptr 5 0 0)), (6, .one (.clo 89 [(5, 0, 0)]))] [(2, ⟨0, .box (.es [eI 11, eI v.k, eI v.i, eQ v.b, eT v.t, eT n, .sl ((([a, b])).map eEx)]), 0⟩), (5, ⟨0, .box (.ds [.own 3000 0]), 0⟩), (3000, ⟨0, .row 4 (((shF a (left 11) ++ [mkS 11])).map eTok), 0⟩)]) (le_of (ad := []) ⟨zzl, zzl, zzl, zzl, trivial⟩ (memOk_box rfl rfl rfl (memOk_box rfl rfl zzi (memOk_row rfl rfl rfl trivial)))) ?_
  have hk := ihb (lvF 11 + 1)
  rw [← exAll b] at hk
  have hpu := put_fn ((shF a (left 11) ++ [mkS 11])) (shF b (lvF 11 + 1)) (by first | (simp; done) | (simp; omega))
  repeat' first | refine zzs ?_ | refine zzb ?_ | refine zzk ?_
  refine tr_region (zzx hnt rfl ?_ (call rfl rfl rfl rfl rfl rfl rfl hnt (hk) (zzx hnt rfl ?_ (callH (us := []) [(900000, 5)] [(900001, 3000)] [(900001, 3000)] rfl rfl rfl rfl (hpu) (by repeat' first | exact .nil | refine .lent rfl rfl rfl ?_ | refine .data rfl ?_) (fun _ => rfl) rfl rfl hnt rfl rfl zzi zzi (zzx hnt rfl ?_ (Lex.nil _)))))) ?_
  ·exact zza
  ·exact zza
  ·exact zza
  repeat' first | refine zzs ?_ | refine zzr hnt rfl ?_ ?_ | refine zzd hnt rfl ?_ ?_ | refine zzb ?_ | refine zzk ?_
  ·exact zzt
  exact tr_ret ⟨.inr rfl, _, _, rfl, trivial, rfl⟩
 ·clear ho
  have fa : 0 + 7 ≤ (Cs.es (eEx a)).len := by have := ex7 a; show 0 + 7 ≤ (eEx a).length; omega
  have ga : (eEx a).length = 7 := ex7 a
  have na := lena (left 12)
  have fb : 0 + 7 ≤ (Cs.es (eEx b)).len := by have := ex7 b; show 0 + 7 ≤ (eEx b).length; omega
  have gb : (eEx b).length = 7 := ex7 b
  have nb := lenb (lvF 12 + 1)
  rw [eEx_mk]
  repeat' first | refine zzs ?_ | refine zzb ?_ | refine zzk ?_
  first | refine zzr hnt rfl ?_ ?_ | refine zzd hnt rfl ?_ ?_
  ·exact zzt
  repeat' first | refine zzs ?_ | refine zzb ?_ | refine zzk ?_
  first | refine zzr hnt rfl ?_ ?_ | refine zzd hnt rfl ?_ ?_
  ·exact zzt
  repeat' first | refine zzs ?_ | refine zzb ?_ | refine zzk ?_
  first | refine zzr hnt rfl ?_ ?_ | refine zzd hnt rfl ?_ ?_
  ·exact zzt
  refine tr_le (s' := St.of [(1, .one (.e (eI least))), (2, .one (.ptr 2 0 0)), (5, .one (.ptr 5 0 0)), (6, .one (.clo 89 [(5, 0, 0)]))] [(2, ⟨0, .box (.es [eI 12, eI v.k, eI v.i, eQ v.b, eT v.t, eT n, .sl ((([a, b])).map eEx)]), 0⟩), (5, ⟨0, .box (.ds [.own 3000 0]), 0⟩), (3000, ⟨0, .row 4 ([].map eTok), 0⟩)]) (le_of (ad := [3000]) ⟨zzl, zzl, zzl, zzl, trivial⟩ (memOk_box rfl rfl rfl (memOk_box rfl rfl zzi (memOk_new rfl (by decide) trivial)))) ?_
  have hlv := level_fn 12 (by decide) (by decide)
  repeat' first | refine zzs ?_ | refine zzb ?_ | refine zzk ?_
  refine tr_region (zzx hnt rfl ?_ (call rfl rfl rfl rfl rfl rfl rfl hnt (hlv) (zzx hnt rfl ?_ (Lex.nil _)))) ?_
  ·exact zza
  ·exact zza
  repeat' first | refine zzs ?_ | refine zzb ?_ | refine zzk ?_
  refine tr_cond rfl (fun hc => ?_) (fun hc => ?_)
  ·exact absurd (of_decide_eq_true hc) (by omega)
  repeat' first | refine zzs ?_ | refine zzb ?_ | refine zzk ?_
  refine tr_region (zzx hnt rfl ?_ (call rfl rfl rfl rfl rfl rfl rfl hnt (hlv) (zzx hnt rfl ?_ (Lex.nil _)))) ?_
  ·exact zza
  ·exact zza
  refine tr_le (s' := St.of [(7, .one (.e (eI (lvF 12)))), (2, .one (.ptr 2 0 0)), (5, .one (.ptr 5 0 0)), (6, .one (.clo 89 [(5, 0, 0)]))] [(2, ⟨0, .box (.es [eI 12, eI v.k, eI v.i, eQ v.b, eT v.t, eT n, .sl ((([a, b])).map eEx)]), 0⟩), (5, ⟨0, .box (.ds [.own 3000 0]), 0⟩), (3000, ⟨0, .row 4 (([]).map eTok), 0⟩)]) (le_of (ad := []) ⟨zzl, zzl, zzl, zzl, trivial⟩ (memOk_box rfl rfl rfl (memOk_box rfl rfl zzi (memOk_row rfl rfl rfl trivial)))) ?_
  repeat' (first | refine tr_seq ?_ | refine tr_block ?_ | refine tr_skip ?_ | refine reg (T := tab) tOk hnt rfl (by exact zzt) ?_ | refine regD (T := tab) tOk mixedR hnt rfl (by first | decide +kernel | kernel_rfl) (by exact zzt) ?_ | refine tr_cond rfl (fun hc => ?_) (fun hc => absurd (show true = false from hc) Bool.noConfusion) | refine tr_cond rfl (fun hc => absurd (show false = true from hc) Bool.noConfusion) (fun hc => ?_))
  have hk := iha (left 12)
  rw [← exAll a] at hk
  have hpu := put_fn ([]) (shF a (left 12)) (by first | (simp; done) | (simp; omega))
  repeat' first | refine zzs ?_ | refine zzb ?_ | refine zzk ?_
  refine tr_region (zzx hnt rfl ?_ (call rfl rfl rfl rfl rfl rfl rfl hnt (hk) (zzx hnt rfl ?_ (callH (us := []) [(900000, 5)] [(900001, 3000)] [(900001, 3000)] rfl rfl rfl rfl (hpu) (by repeat' first | exact .nil | refine .lent rfl rfl rfl ?_ | refine .data rfl ?_) (fun _ => rfl) rfl rfl hnt rfl rfl zzi zzi (zzx hnt rfl ?_ (Lex.nil _)))))) ?_
  ·exact zza
  ·exact zza
  ·exact zza
  refine tr_le (s' := St.of [(7, .one (.e (eI (lvF 12)))), (2, .one (.ptr 2 0 0)), (5, .one (.ptr 5 0 0)), (6, .one (.clo 89 [(5, 0, 0)]))] [(2, ⟨0, .box (.es [eI 12, eI v.k, eI v.i, eQ v.b, eT v.t, eT n, .sl ((([a, b])).map eEx)]), 0⟩), (5, ⟨0, .box (.ds [.own 3000 0]), 0⟩), (3000, ⟨0, .row 4 (((shF a (left 12))).map eTok), 0⟩)]) (le_of (ad := []) ⟨zzl, zzl, zzl, zzl, trivial⟩ (memOk_box rfl rfl rfl (memOk_box rfl rfl zzi (memOk_row rfl rfl rfl trivial)))) ?_
  have h1 := (mark_fn 12 (by decide))
  have hpu := put_fn ((shF a (left 12))) ([(mkS 12)]) (by first | (simp; done) | (simp; omega))
  repeat' first | refine zzs ?_ | refine zzb ?_ | refine zzk ?_
  refine tr_region (zzx hnt rfl ?_ (call rfl rfl rfl rfl rfl rfl rfl hnt (h1) (zzx hnt rfl ?_ (callH [(900000, 5)] [(900001, 3000)] [(900001, 3000)] rfl rfl rfl rfl (hpu) (by repeat' first | exact .nil | refine .lent rfl rfl rfl ?_ | refine argsData1 rfl ?_ | refine .data rfl ?_) (ver_upd1 rfl) rfl rfl hnt rfl rfl zzi zzi (zzx hnt rfl ?_ (Lex.nil _)))))) ?_
  ·exact zza
  ·exact zza
  ·exact zza
  refine tr_le (s' := St.of [(7, .one (.e (eI (lvF 12)))), (2, .one (.ptr 2 0 0)), (5, .one (.ptr 5 0 0)), (6, .one (.clo 89 [(5, 0, 0)]))] [(2, ⟨0, .box (.es [eI 12, eI v.k, eI v.i, eQ v.b, eT v.t, eT n, .sl ((([a, b])).map eEx)]), 0⟩), (5, ⟨0, .box (.ds [.own 3000 0]), 0⟩), (3000, ⟨0, .row 4 (((shF a (left 12) ++ [mkS 12])).map eTok), 0⟩)]) (le_of (ad := []) ⟨zzl, zzl, zzl, zzl, trivial⟩ (memOk_box rfl rfl rfl (memOk_box rfl rfl zzi (memOk_row rfl rfl rfl trivial)))) ?_
  have hk := ihb (lvF 12 + 1)
  rw [← exAll b] at hk
  have hpu := put_fn ((shF a (left 12) ++ [mkS 12])) (shF b (lvF 12 + 1)) (by first | (simp; done) | (simp; omega))
  repeat' first | refine zzs ?_ | refine zzb ?_ | refine zzk ?_
  refine tr_region (zzx hnt rfl ?_ (call rfl rfl rfl rfl rfl rfl rfl hnt (hk) (zzx hnt rfl ?_ (callH (us := []) [(900000, 5)] [(900001, 3000)] [(900001, 3000)] rfl rfl rfl rfl (hpu) (by repeat' first | exact .nil | refine .lent rfl rfl rfl ?_ | refine .data rfl ?_) (fun _ => rfl) rfl rfl hnt rfl rfl zzi zzi (zzx hnt rfl ?_ (Lex.nil _)))))) ?_
  ·exact zza
  ·exact zza
  ·exact zza
  repeat' first | refine zzs ?_ | refine zzr hnt rfl ?_ ?_ | refine zzd hnt rfl ?_ ?_ | refine zzb ?_ | refine zzk ?_
  ·exact zzt
  exact tr_ret ⟨.inr rfl, _, _, rfl, trivial, rfl⟩
 ·clear ho
  have fa : 0 + 7 ≤ (Cs.es (eEx a)).len := by have := ex7 a; show 0 + 7 ≤ (eEx a).length; omega
  have ga : (eEx a).length = 7 := ex7 a
  have na := lena (left 13)
  have fb : 0 + 7 ≤ (Cs.es (eEx b)).len := by have := ex7 b; show 0 + 7 ≤ (eEx b).length; omega
  have gb : (eEx b).length = 7 := ex7 b
  have nb := lenb (lvF 13 + 1)
  rw [eEx_mk]
  repeat' first | refine zzs ?_ | refine zzb ?_ | refine zzk ?_
  first | refine zzr hnt rfl ?_ ?_ | refine zzd hnt rfl ?_ ?_
  ·exact zzt
  repeat' first | refine zzs ?_ | refine zzb ?_ | refine zzk ?_
  first | refine zzr hnt rfl ?_ ?_ | refine zzd hnt rfl ?_ ?_
  ·exact zzt
  repeat' first | refine zzs ?_ | refine zzb ?_ | refine zzk ?_
  first | refine zzr hnt rfl ?_ ?_ | refine zzd hnt rfl ?_ ?_
  ·exact zzt
  refine tr_le (s' := St.of [(1, .one (.e (eI least))), (2, .one (.ptr 2 0 0)), (5, .one (.ptr 5 0 0)), (6, .one (.clo 89 [(5, 0, 0)]))] [(2, ⟨0, .box (.es [eI 13, eI v.k, eI v.i, eQ v.b, eT v.t, eT n, .sl ((([a, b])).map eEx)]), 0⟩), (5, ⟨0, .box (.ds [.own 3000 0]), 0⟩), (3000, ⟨0, .row 4 ([].map eTok), 0⟩)]) (le_of (ad := [3000]) ⟨zzl, zzl, zzl, zzl, trivial⟩ (memOk_box rfl rfl rfl (memOk_box rfl rfl zzi (memOk_new rfl (by decide) trivial)))) ?_
  have hlv := level_fn 13 (by decide) (by decide)
  repeat' first | refine zzs ?_ | refine zzb ?_ | refine zzk ?_
  refine tr_region (zzx hnt rfl ?_ (call rfl rfl rfl rfl rfl rfl rfl hnt (hlv) (zzx hnt rfl ?_ (Lex.nil _)))) ?_
  ·exact zza
  ·exact zza
  repeat' first | refine zzs ?_ | refine zzb ?_ | refine zzk ?_
  refine tr_cond rfl (fun hc => ?_) (fun hc => ?_)
  ·exact absurd (of_decide_eq_true hc) (by omega)
  repeat' first | refine zzs ?_ | refine zzb ?_ | refine zzk ?_
  refine tr_region (zzx hnt rfl ?_ (call rfl rfl rfl rfl rfl rfl rfl hnt (hlv) (zzx hnt rfl ?_ (Lex.nil _)))) ?_
  ·exact zza
  ·exact zza
  refine tr_le (s' := St.of [(7, .one (.e (eI (lvF 13)))), (2, .one (.ptr 2 0 0)), (5, .one (.ptr 5 0 0)), (6, .one (.clo 89 [(5, 0, 0)]))] [(2, ⟨0, .box (.es [eI 13, eI v.k, eI v.i, eQ v.b, eT v.t, eT n, .sl ((([a, b])).map eEx)]), 0⟩), (5, ⟨0, .box (.ds [.own 3000 0]), 0⟩), (3000, ⟨0, .row 4 (([]).map eTok), 0⟩)]) (le_of (ad := []) ⟨zzl, zzl, zzl, zzl, trivial⟩ (memOk_box rfl rfl rfl (memOk_box rfl rfl zzi (memOk_row rfl rfl rfl trivial)))) ?_
  repeat' (first | refine tr_seq ?_ | refine tr_block ?_ | refine tr_skip ?_ | refine reg (T := tab) tOk hnt rfl (by exact zzt) ?_ | refine regD (T := tab) tOk mixedR hnt rfl (by first | decide +kernel | kernel_rfl) (by exact zzt) ?_ | refine tr_cond rfl (fun hc => ?_) (fun hc => absurd (show true = false from hc) Bool.noConfusion) | refine tr_cond rfl (fun hc => absurd (show false = true from hc) Bool.noConfusion) (fun hc => ?_))
  have hk := iha (left 13)
  rw [← exAll a] at hk
  have hpu := put_fn ([]) (shF a (left 13)) (by first | (simp; done) | (simp; omega))
  repeat' first | refine zzs ?_ | refine zzb ?_ | refine zzk ?_
  refine tr_region (zzx hnt rfl ?_ (call rfl rfl rfl rfl rfl rfl rfl hnt (hk) (zzx hnt rfl ?_ (callH (us := []) [(900000, 5)] [(900001, 3000)] [(900001, 3000)] rfl rfl rfl rfl (hpu) (by repeat' first | exact .nil | refine .lent rfl rfl rfl ?_ | refine .data rfl ?_) (fun _ => rfl) rfl rfl hnt rfl rfl zzi zzi (zzx hnt rfl ?_ (Lex.nil _)))))) ?_
  ·exact zza
  ·exact zza
  ·exact zza
  refine tr_le (s' := St.of [(7, .one (.e (eI (lvF 13)))), (2, .one (.ptr 2 0 0)), (5, .one (.ptr 5 0 0)), (6, .one (.clo 89 [(5, 0, 0)]))] [(2, ⟨0, .box (.es [eI 13, eI v.k, eI v.i, eQ v.b, eT v.t, eT n, .sl ((([a, b])).map eEx)]), 0⟩), (5, ⟨0, .box (.ds [.own 3000 0]), 0⟩), (3000, ⟨0, .row 4 (((shF a (left 13))).map eTok), 0⟩)]) (le_of (ad := []) ⟨zzl, zzl, zzl, zzl, trivial⟩ (memOk_box rfl rfl rfl (memOk_box rfl rfl zzi (memOk_row rfl rfl rfl trivial)))) ?_
  have h1 := (mark_fn 13 (by decide))
  have hpu := put_fn ((shF a (left 13))) ([(mkS 13)]) (by first | (simp; done) | (simp; omega))
  repeat' first | refine zzs ?_ | refine zzb ?_ | refine zzk ?_
  refine tr_region (zzx hnt rfl ?_ (call rfl rfl rfl rfl rfl rfl rfl hnt (h1) (zzx hnt rfl ?_ (callH [(900000, 5)] [(900001, 3000)] [(900001, 3000)] rfl rfl rfl rfl (hpu) (by repeat' first | exact .nil | refine .lent rfl rfl rfl ?_ | refine argsData1 rfl ?_ | refine .data rfl ?_) (ver_upd1 rfl) rfl rfl hnt rfl rfl zzi zzi (zzx hnt rfl ?_ (Lex.nil _)))))) ?_
  ·exact zza
  ·exact zza
  ·exact zza
  refine tr_le (s' := St.of [(7, .one (.e (eI (lvF 13)))), (2, .one (.ptr 2 0 0)), (5, .one (.ptr 5 0 0)), (6, .one (.clo 89 [(5, 0, 0)]))] [(2, ⟨0, .box (.es [eI 13, eI v.k, eI v.i, eQ v.b, eT v.t, eT n, .sl ((([a, b])).map eEx)]), 0⟩), (5, ⟨0, .box (.ds [.own 3000 0]), 0⟩), (3000, ⟨0, .row 4 (((shF a (left 13) ++ [mkS 13])).map eTok), 0⟩)]) (le_of (ad := []) ⟨zzl, zzl, zzl, zzl, trivial⟩ (memOk_box rfl rfl rfl (memOk_box rfl rfl zzi (memOk_row rfl rfl rfl trivial)))) ?_
  have hk := ihb (lvF 13 + 1)
  rw [← exAll b] at hk
  have hpu := put_fn ((shF a (left 13) ++ [mkS 13])) (shF b (lvF 13 + 1)) (by first | (simp; done) | (simp; omega))
  repeat' first | refine zzs ?_ | refine zzb ?_ | refine zzk ?_
  refine tr_region (zzx hnt rfl ?_ (call rfl rfl rfl rfl rfl rfl rfl hnt (hk) (zzx hnt rfl ?_ (callH (us := []) [(900000, 5)] [(900001, 3000)] [(900001, 3000)] rfl rfl rfl rfl (hpu) (by repeat' first | exact .nil | refine .lent rfl rfl rfl ?_ | refine .data rfl ?_) (fun _ => rfl) rfl rfl hnt rfl rfl zzi zzi (zzx hnt rfl ?_ (Lex.nil _)))))) ?_
  ·exact zza
  ·exact zza
  ·exact zza
  repeat' first | refine zzs ?_ | refine zzr hnt rfl ?_ ?_ | refine zzd hnt rfl ?_ ?_ | refine zzb ?_ | refine zzk ?_
  ·exact zzt
  exact tr_ret ⟨.inr rfl, _, _, rfl, trivial, rfl⟩
 ·clear ho
  have fa : 0 + 7 ≤ (Cs.es (eEx a)).len := by have := ex7 a; show 0 + 7 ≤ (eEx a).length; omega
  have ga : (eEx a).length = 7 := ex7 a
  have na := lena (left 14)
  have fb : 0 + 7 ≤ (Cs.es (eEx b)).len := by have := ex7 b; show 0 + 7 ≤ (eEx b).length; omega
  have gb : (eEx b).length = 7 := ex7 b
  have nb := lenb (lvF 14 + 1)
  rw [eEx_mk]
  repeat' first | refine zzs ?_ | refine zzb ?_ | refine zzk ?_
  first | refine zzr hnt rfl ?_ ?_ | refine zzd hnt rfl ?_ ?_
  ·exact zzt
  repeat' first | refine zzs ?_ | refine zzb ?_ | refine zzk ?_
  first | refine zzr hnt rfl ?_ ?_ | refine zzd hnt rfl ?_ ?_
  ·exact zzt
  repeat' first | refine zzs ?_ | refine zzb ?_ | refine zzk ?_
  first | refine zzr hnt rfl ?_ ?_ | refine zzd hnt rfl ?_ ?_
  ·exact zzt
  refine tr_le (s' := St.of [(1, .one (.e (eI least))), (2, .one (.ptr 2 0 0)), (5, .one (.ptr 5 0 0)), (6, .one (.clo 89 [(5, 0, 0)]))] [(2, ⟨0, .box (.es [eI 14, eI v.k, eI v.i, eQ v.b, eT v.t, eT n, .sl ((([a, b])).map eEx)]), 0⟩), (5, ⟨0, .box (.ds [.own 3000 0]), 0⟩), (3000, ⟨0, .row 4 ([].map eTok), 0⟩)]) (le_of (ad := [3000]) ⟨zzl, zzl, zzl, zzl, trivial⟩ (memOk_box rfl rfl rfl (memOk_box rfl rfl zzi (memOk_new rfl (by decide) trivial)))) ?_
  have hlv := level_fn 14 (by decide) (by decide)
  repeat' first | refine zzs ?_ | refine zzb ?_ | refine zzk ?_
  refine tr_region (zzx hnt rfl ?_ (call rfl rfl rfl rfl rfl rfl rfl hnt (hlv) (zzx hnt rfl ?_ (Lex.nil _)))) ?_
  ·exact zza
  ·exact zza
  repeat' first | refine zzs ?_ | refine zzb ?_ | refine zzk ?_
  refine tr_cond rfl (fun hc => ?_) (fun hc => ?_)
  ·exact absurd (of_decide_eq_true hc) (by omega)
  repeat' first | refine zzs ?_ | refine zzb ?_ | refine zzk ?_
  refine tr_region (zzx hnt rfl ?_ (call rfl rfl rfl rfl rfl rfl rfl hnt (hlv) (zzx hnt rfl ?_ (Lex.nil _)))) ?_
  ·exact zza
  ·exact zza
  refine tr_le (s' := St.of [(7, .one (.e (eI (lvF 14)))), (2, .one (.ptr 2 0 0)), (5, .one (.ptr 5 0 0)), (6, .one (.clo 89 [(5, 0, 0)]))] [(2, ⟨0, .box (.es [eI 14, eI v.k, eI v.i, eQ v.b, eT v.t, eT n, .sl ((([a, b])).map eEx)]), 0⟩), (5, ⟨0, .box (.ds [.own 3000 0]), 0⟩), (3000, ⟨0, .row 4 (([]).map eTok), 0⟩)]) (le_of (ad := []) ⟨zzl, zzl, zzl, zzl, trivial⟩ (memOk_box rfl rfl rfl (memOk_box rfl rfl zzi (memOk_row rfl rfl rfl trivial)))) ?_
  repeat' (first | refine tr_seq ?_ | refine tr_block ?_ | refine tr_skip ?_ | refine reg (T := tab) tOk hnt rfl (by exact zzt) ?_ | refine regD (T := tab) tOk mixedR hnt rfl (by first | decide +kernel | kernel_rfl) (by exact zzt) ?_ | refine tr_cond rfl (fun hc => ?_) (fun hc => absurd (show true = false from hc) Bool.noConfusion) | refine tr_cond rfl (fun hc => absurd (show false = true from hc) Bool.noConfusion) (fun hc => ?_))
  have hk := iha (left 14)
  rw [← exAll a] at hk
  have hpu := put_fn ([]) (shF a (left 14)) (by first | (simp; done) | (simp; omega))
  repeat' first | refine zzs ?_ | refine zzb ?_ | refine zzk ?_
  refine tr_region (zzx hnt rfl ?_ (call rfl rfl rfl rfl rfl rfl rfl hnt (hk) (zzx hnt rfl ?_ (callH (us := []) [(900000, 5)] [(900001, 3000)] [(900001, 3000)] rfl rfl rfl rfl (hpu) (by repeat' first | exact .nil | refine .lent rfl rfl rfl ?_ | refine .data rfl ?_) (fun _ => rfl) rfl rfl hnt rfl rfl zzi zzi (zzx hnt rfl ?_ (Lex.nil _)))))) ?_
  ·exact zza
  ·exact zza
  ·exact zza
  refine tr_le (s' := St.of [(7, .one (.e (eI (lvF 14)))), (2, .one (.ptr 2 0 0)), (5, .one (.ptr 5 0 0)), (6, .one (.clo 89 [(5, 0, 0)]))] [(2, ⟨0, .box (.es [eI 14, eI v.k, eI v.i, eQ v.b, eT v.t, eT n, .sl ((([a, b])).map eEx)]), 0⟩), (5, ⟨0, .box (.ds [.own 3000 0]), 0⟩), (3000, ⟨0, .row 4 (((shF a (left 14))).map eTok), 0⟩)]) (le_of (ad := []) ⟨zzl, zzl, zzl, zzl, trivial⟩ (memOk_box rfl rfl rfl (memOk_box rfl rfl zzi (memOk_row rfl rfl rfl trivial)))) ?_
  have h1 := (mark_fn 14 (by decide))
  have hpu := put_fn ((shF a (left 14))) ([(mkS 14)]) (by first | (simp; done) | (simp; omega))
  repeat' first | refine zzs ?_ | refine zzb ?_ | refine zzk ?_
  refine tr_region (zzx hnt rfl ?_ (call rfl rfl rfl rfl rfl rfl rfl hnt (h1) (zzx hnt rfl ?_ (callH [(900000, 5)] [(900001, 3000)] [(900001, 3000)] rfl rfl rfl rfl (hpu) (by repeat' first | exact .nil | refine .lent rfl rfl rfl ?_ | refine argsData1 rfl ?_ | refine .data rfl ?_) (ver_upd1 rfl) rfl rfl hnt rfl rfl zzi zzi (zzx hnt rfl ?_ (Lex.nil _)))))) ?_
  ·exact zza
  ·exact zza
  ·exact zza
  refine tr_le (s' := St.of [(7, .one (.e (eI (lvF 14)))), (2, .one (.ptr 2 0 0)), (5, .one (.ptr 5 0 0)), (6, .one (.clo 89 [(5, 0, 0)]))] [(2, ⟨0, .box (.es [eI 14, eI v.k, eI v.i, eQ v.b, eT v.t, eT n, .sl ((([a, b])).map eEx)]), 0⟩), (5, ⟨0, .box (.ds [.own 3000 0]), 0⟩), (3000, ⟨0, .row 4 (((shF a (left 14) ++ [mkS 14])).map eTok), 0⟩)]) (le_of (ad := []) ⟨zzl, zzl, zzl, zzl, trivial⟩ (memOk_box rfl rfl rfl (memOk_box rfl rfl zzi (memOk_row rfl rfl rfl trivial)))) ?_
  have hk := ihb (lvF 14 + 1)
  rw [← exAll b] at hk
  have hpu := put_fn ((shF a (left 14) ++ [mkS 14])) (shF b (lvF 14 + 1)) (by first | (simp; done) | (simp; omega))
  repeat' first | refine zzs ?_ | refine zzb ?_ | refine zzk ?_
  refine tr_region (zzx hnt rfl ?_ (call rfl rfl rfl rfl rfl rfl rfl hnt (hk) (zzx hnt rfl ?_ (callH (us := []) [(900000, 5)] [(900001, 3000)] [(900001, 3000)] rfl rfl rfl rfl (hpu) (by repeat' first | exact .nil | refine .lent rfl rfl rfl ?_ | refine .data rfl ?_) (fun _ => rfl) rfl rfl hnt rfl rfl zzi zzi (zzx hnt rfl ?_ (Lex.nil _)))))) ?_
  ·exact zza
  ·exact zza
  ·exact zza
  repeat' first | refine zzs ?_ | refine zzr hnt rfl ?_ ?_ | refine zzd hnt rfl ?_ ?_ | refine zzb ?_ | refine zzk ?_
  ·exact zzt
  exact tr_ret ⟨.inr rfl, _, _, rfl, trivial, rfl⟩
 ·clear ho
  have fa : 0 + 7 ≤ (Cs.es (eEx a)).len := by have := ex7 a; show 0 + 7 ≤ (eEx a).length; omega
  have ga : (eEx a).length = 7 := ex7 a
  have na := lena (left 15)
  have fb : 0 + 7 ≤ (Cs.es (eEx b)).len := by have := ex7 b; show 0 + 7 ≤ (eEx b).length; omega
  have gb : (eEx b).length = 7 := ex7 b
  have nb := lenb (lvF 15 + 1)
  rw [eEx_mk]
  repeat' first | refine zzs ?_ | refine zzb ?_ | refine zzk ?_
  first | refine zzr hnt rfl ?_ ?_ | refine zzd hnt rfl ?_ ?_
  ·exact zzt
  repeat' first | refine zzs ?_ | refine zzb ?_ | refine zzk ?_
  first | refine zzr hnt rfl ?_ ?_ | refine zzd hnt rfl ?_ ?_
  ·exact zzt
  repeat' first | refine zzs ?_ | refine zzb ?_ | refine zzk ?_
  first | refine zzr hnt rfl ?_ ?_ | refine zzd hnt rfl ?_ ?_
  ·exact zzt
  refine tr_le (s' := St.of [(1, .one (.e (eI least))), (2, .one (.ptr 2 0 0)), (5, .one (.ptr 5 0 0)), (6, .one (.clo 89 [(5, 0, 0)]))] [(2, ⟨0, .box (.es [eI 15, eI v.k, eI v.i, eQ v.b, eT v.t, eT n, .sl ((([a, b])).map eEx)]), 0⟩), (5, ⟨0, .box (.ds [.own 3000 0]), 0⟩), (3000, ⟨0, .row 4 ([].map eTok), 0⟩)]) (le_of (ad := [3000]) ⟨zzl, zzl, zzl, zzl, trivial⟩ (memOk_box rfl rfl rfl (memOk_box rfl rfl zzi (memOk_new rfl (by decide) trivial)))) ?_
  have hlv := level_fn 15 (by decide) (by decide)
  repeat' first | refine zzs ?_ | refine zzb ?_ | refine zzk ?_
  refine tr_region (zzx hnt rfl ?_ (call rfl rfl rfl rfl rfl rfl rfl hnt (hlv) (zzx hnt rfl ?_ (Lex.nil _)))) ?_
  ·exact zza
  ·exact zza
  repeat' first | refine zzs ?_ | refine zzb ?_ | refine zzk ?_
  refine tr_cond rfl (fun hc => ?_) (fun hc => ?_)
  ·exact absurd (of_decide_eq_true hc) (by omega)
  repeat' first | refine zzs ?_ | refine zzb ?_ | refine zzk ?_
  refine tr_region (zzx hnt rfl ?_ (call rfl rfl rfl rfl rfl rfl rfl hnt (hlv) (zzx hnt rfl ?_ (Lex.nil _)))) ?_
  ·exact zza
  ·exact zza
  refine tr_le (s' := St.of [(7, .one (.e (eI (lvF 15)))), (2, .one (.ptr 2 0 0)), (5, .one (.ptr 5 0 0)), (6, .one (.clo 89 [(5, 0, 0)]))] [(2, ⟨0, .box (.es [eI 15, eI v.k, eI v.i, eQ v.b, eT v.t, eT n, .sl ((([a, b])).map eEx)]), 0⟩), (5, ⟨0, .box (.ds [.own 3000 0]), 0⟩), (3000, ⟨0, .row 4 (([]).map eTok), 0⟩)]) (le_of (ad := []) ⟨zzl, zzl, zzl, zzl, trivial⟩ (memOk_box rfl rfl rfl (memOk_box rfl rfl zzi (memOk_row rfl rfl rfl trivial)))) ?_
  repeat' (first | refine tr_seq ?_ | refine tr_block ?_ | refine tr_skip ?_ | refine reg (T := tab) tOk hnt rfl (by exact zzt) ?_ | refine regD (T := tab) tOk mixedR hnt rfl (by first | decide +kernel | kernel_rfl) (by exact zzt) ?_ | refine tr_cond rfl (fun hc => ?_) (fun hc => absurd (show true = false from hc) Bool.noConfusion) | refine tr_cond rfl (fun hc => absurd (show false = true from hc) Bool.noConfusion) (fun hc => ?_))
  have hk := iha (left 15)
  rw [← exAll a] at hk
  have hpu := put_fn ([]) (shF a (left 15)) (by first | (simp; done) | (simp; omega))
  repeat' first | refine zzs ?_ | refine zzb ?_ | refine zzk ?_
  refine tr_region (zzx hnt rfl ?_ (call rfl rfl rfl rfl rfl rfl rfl hnt (hk) (zzx hnt rfl ?_ (callH (us := []) [(900000, 5)] [(900001, 3000)] [(900001, 3000)] rfl rfl rfl rfl (hpu) (by repeat' first | exact .nil | refine .lent rfl rfl rfl ?_ | refine .data rfl ?_) (fun _ => rfl) rfl rfl hnt rfl rfl zzi zzi (zzx hnt rfl ?_ (Lex.nil _)))))) ?_
  ·exact zza
  ·exact zza
  ·exact zza
  refine tr_le (s' := St.of [(7, .one (.e (eI (lvF 15)))), (2, .one (.ptr 2 0 0)), (5, .one (.ptr 5 0 0)), (6, .one (.clo 89 [(5, 0, 0)]))] [(2, ⟨0, .box (.es [eI 15, eI v.k, eI v.i, eQ v.b, eT v.t, eT n, .sl ((([a, b])).map eEx)]), 0⟩), (5, ⟨0, .box (.ds [.own 3000 0]), 0⟩), (3000, ⟨0, .row 4 (((shF a (left 15))).map eTok), 0⟩)]) (le_of (ad := []) ⟨zzl, zzl, zzl, zzl, trivial⟩ (memOk_box rfl rfl rfl (memOk_box rfl rfl zzi (memOk_row rfl rfl rfl trivial)))) ?_
  have h1 := (mark_fn 15 (by decide))
  have hpu := put_fn ((shF a (left 15))) ([(mkS 15)]) (by first | (simp; done) | (simp; omega))
  repeat' first | refine zzs ?_ | refine zzb ?_ | refine zzk ?_
  refine tr_region (zzx hnt rfl ?_ (call rfl rfl rfl rfl rfl rfl rfl hnt (h1) (zzx hnt rfl ?_ (callH [(900000, 5)] [(900001, 3000)] [(900001, 3000)] rfl rfl rfl rfl (hpu) (by repeat' first | exact .nil | refine .lent rfl rfl rfl ?_ | refine argsData1 rfl ?_ | refine .data rfl ?_) (ver_upd1 rfl) rfl rfl hnt rfl rfl zzi zzi (zzx hnt rfl ?_ (Lex.nil _)))))) ?_
  ·exact zza
  ·exact zza
  ·exact zza
  refine tr_le (s' := St.of [(7, .one (.e (eI (lvF 15)))), (2, .one (.ptr 2 0 0)), (5, .one (.ptr 5 0 0)), (6, .one (.clo 89 [(5, 0, 0)]))] [(2, ⟨0, .box (.es [eI 15, eI v.k, eI v.i, eQ v.b, eT v.t, eT n, .sl ((([a, b])).map eEx)]), 0⟩), (5, ⟨0, .box (.ds [.own 3000 0]), 0⟩), (3000, ⟨0, .row 4 (((shF a (left 15) ++ [mkS 15])).map eTok), 0⟩)]) (le_of (ad := []) ⟨zzl, zzl, zzl, zzl, trivial⟩ (memOk_box rfl rfl rfl (memOk_box rfl rfl zzi (memOk_row rfl rfl rfl trivial)))) ?_
  have hk := ihb (lvF 15 + 1)
  rw [← exAll b] at hk
  have hpu := put_fn ((shF a (left 15) ++ [mkS 15])) (shF b (lvF 15 + 1)) (by first | (simp; done) | (simp; omega))
  repeat' first | refine zzs ?_ | refine zzb ?_ | refine zzk ?_
  refine tr_region (zzx hnt rfl ?_ (call rfl rfl rfl rfl rfl rfl rfl hnt (hk) (zzx hnt rfl ?_ (callH (us := []) [(900000, 5)] [(900001, 3000)] [(900001, 3000)] rfl rfl rfl rfl (hpu) (by repeat' first | exact .nil | refine .lent rfl rfl rfl ?_ | refine .data rfl ?_) (fun _ => rfl) rfl rfl hnt rfl rfl zzi zzi (zzx hnt rfl ?_ (Lex.nil _)))))) ?_
  ·exact zza
  ·exact zza
  ·exact zza
  repeat' first | refine zzs ?_ | refine zzr hnt rfl ?_ ?_ | refine zzd hnt rfl ?_ ?_ | refine zzb ?_ | refine zzk ?_
  ·exact zzt
  exact tr_ret ⟨.inr rfl, _, _, rfl, trivial, rfl⟩
 ·clear ho
  have fa : 0 + 7 ≤ (Cs.es (eEx a)).len := by have := ex7 a; show 0 + 7 ≤ (eEx a).length; omega
  have ga : (eEx a).length = 7 := ex7 a
  have na := lena (left 16)
  have fb : 0 + 7 ≤ (Cs.es (eEx b)).len := by have := ex7 b; show 0 + 7 ≤ (eEx b).length; omega
  have gb : (eEx b).length = 7 := ex7 b
  have nb := lenb (lvF 16 + 1)
  rw [eEx_mk]
  repeat' first | refine zzs ?_ | refine zzb ?_ | refine zzk ?_
  first | refine zzr hnt rfl ?_ ?_ | refine zzd hnt rfl ?_ ?_
  ·exact zzt
  repeat' first | refine zzs ?_ | refine zzb ?_ | refine zzk ?_
  first | refine zzr hnt rfl ?_ ?_ | refine zzd hnt rfl ?_ ?_
  ·exact zzt
  repeat' first | refine zzs ?_ | refine zzb ?_ | refine zzk ?_
  first | refine zzr hnt rfl ?_ ?_ | refine zzd hnt rfl ?_ ?_
  ·exact zzt
  refine tr_le (s' := St.of [(1, .one (.e (eI least))), (2, .one (.ptr 2 0 0)), (5, .one (.ptr 5 0 0)), (6, .one (.clo 89 [(5, 0, 0)]))] [(2, ⟨0, .box (.es [eI 16, eI v.k, eI v.i, eQ v.b, eT v.t, eT n, .sl ((([a, b])).map eEx)]), 0⟩), (5, ⟨0, .box (.ds [.own 3000 0]), 0⟩), (3000, ⟨0, .row 4 ([].map eTok), 0⟩)]) (le_of (ad := [3000]) ⟨zzl, zzl, zzl, zzl, trivial⟩ (memOk_box rfl rfl rfl (memOk_box rfl rfl zzi (memOk_new rfl (by decide) trivial)))) ?_
  have hlv := level_fn 16 (by decide) (by decide)
  repeat' first | refine zzs ?_ | refine zzb ?_ | refine zzk ?_
  refine tr_region (zzx hnt rfl ?_ (call rfl rfl rfl rfl rfl rfl rfl hnt (hlv) (zzx hnt rfl ?_ (Lex.nil _)))) ?_
  ·exact zza
  ·exact zza
  repeat' first | refine zzs ?_ | refine zzb ?_ | refine zzk ?_
  refine tr_cond rfl (fun hc => ?_) (fun hc => ?_)
  ·exact absurd (of_decide_eq_true hc) (by omega)
  repeat' first | refine zzs ?_ | refine zzb ?_ | refine zzk ?_
  refine tr_region (zzx hnt rfl ?_ (call rfl rfl rfl rfl rfl rfl rfl hnt (hlv) (zzx hnt rfl ?_ (Lex.nil _)))) ?_
  ·exact zza
  ·exact zza
  refine tr_le (s' := St.of [(7, .one (.e (eI (lvF 16)))), (2, .one (.ptr 2 0 0)), (5, .one (.ptr 5 0 0)), (6, .one (.clo 89 [(5, 0, 0)]))] [(2, ⟨0, .box (.es [eI 16, eI v.k, eI v.i, eQ v.b, eT v.t, eT n, .sl ((([a, b])).map eEx)]), 0⟩), (5, ⟨0, .box (.ds [.own 3000 0]), 0⟩), (3000, ⟨0, .row 4 (([]).map eTok), 0⟩)]) (le_of (ad := []) ⟨zzl, zzl, zzl, zzl, trivial⟩ (memOk_box rfl rfl rfl (memOk_box rfl rfl zzi (memOk_row rfl rfl rfl trivial)))) ?_
  repeat' (first | refine tr_seq ?_ | refine tr_block ?_ | refine tr_skip ?_ | refine reg (T := tab) tOk hnt rfl (by exact zzt) ?_ | refine regD (T := tab) tOk mixedR hnt rfl (by first | decide +kernel | kernel_rfl) (by exact zzt) ?_ | refine tr_cond rfl (fun hc => ?_) (fun hc => absurd (show true = false from hc) Bool.noConfusion) | refine tr_cond rfl (fun hc => absurd (show false = true from hc) Bool.noConfusion) (fun hc => ?_))
  have hk := iha (left 16)
  rw [← exAll a] at hk
  have hpu := put_fn ([]) (shF a (left 16)) (by first | (simp; done) | (simp; omega))
  repeat' first | refine zzs ?_ | refine zzb ?_ | refine zzk ?_
  refine tr_region (zzx hnt rfl ?_ (call rfl rfl rfl rfl rfl rfl rfl hnt (hk) (zzx hnt rfl ?_ (callH (us := []) [(900000, 5)] [(900001, 3000)] [(900001, 3000)] rfl rfl rfl rfl (hpu) (by repeat' first | exact .nil | refine .lent rfl rfl rfl ?_ | refine .data rfl ?_) (fun _ => rfl) rfl rfl hnt rfl rfl zzi zzi (zzx hnt rfl ?_ (Lex.nil _)))))) ?_
  ·exact zza
  ·exact zza
  ·exact zza
  refine tr_le (s' := St.of [(7, .one (.e (eI (lvF 16)))), (2, .one (.ptr 2 0 0)), (5, .one (.ptr 5 0 0)), (6, .one (.clo 89 [(5, 0, 0)]))] [(2, ⟨0, .box (.es [eI 16, eI v.k, eI v.i, eQ v.b, eT v.t, eT n, .sl ((([a, b])).map eEx)]), 0⟩), (5, ⟨0, .box (.ds [.own 3000 0]), 0⟩), (3000, ⟨0, .row 4 (((shF a (left 16))).map eTok), 0⟩)]) (le_of (ad := []) ⟨zzl, zzl, zzl, zzl, trivial⟩ (memOk_box rfl rfl rfl (memOk_box rfl rfl zzi (memOk_row rfl rfl rfl trivial)))) ?_
  have h1 := (mark_fn 16 (by decide))
  have hpu := put_fn ((shF a (left 16))) ([(mkS 16)]) (by first | (simp; done) | (simp; omega))
  repeat' first | refine zzs ?_ | refine zzb ?_ | refine zzk ?_
  refine tr_region (zzx hnt rfl ?_ (call rfl rfl rfl rfl rfl rfl rfl hnt (h1) (zzx hnt rfl ?_ (callH [(900000, 5)] [(900001, 3000)] [(900001, 3000)] rfl rfl rfl rfl (hpu) (by repeat' first | exact .nil | refine .lent rfl rfl rfl ?_ | refine argsData1 rfl ?_ | refine .data rfl ?_) (ver_upd1 rfl) rfl rfl hnt rfl rfl zzi zzi (zzx hnt rfl ?_ (Lex.nil _)))))) ?_
  ·exact zza
  ·exact zza
  ·exact zza
  refine tr_le (s' := St.of [(7, .one (.e (eI (lvF 16)))), (2, .one (.ptr 2 0 0)), (5, .one (.ptr 5 0 0)), (6, .one (.clo 89 [(5, 0, 0)]))] [(2, ⟨0, .box (.es [eI 16, eI v.k, eI v.i, eQ v.b, eT v.t, eT n, .sl ((([a, b])).map eEx)]), 0⟩), (5, ⟨0, .box (.ds [.own 3000 0]), 0⟩), (3000, ⟨0, .row 4 (((shF a (left 16) ++ [mkS 16])).map eTok), 0⟩)]) (le_of (ad := []) ⟨zzl, zzl, zzl, zzl, trivial⟩ (memOk_box rfl rfl rfl (memOk_box rfl rfl zzi (memOk_row rfl rfl rfl trivial)))) ?_
  have hk := ihb (lvF 16 + 1)
  rw [← exAll b] at hk
  have hpu := put_fn ((shF a (left 16) ++ [mkS 16])) (shF b (lvF 16 + 1)) (by first | (simp; done) | (simp; omega))
  repeat' first | refine zzs ?_ | refine zzb ?_ | refine zzk ?_
  refine tr_region (zzx hnt rfl ?_ (call rfl rfl rfl rfl rfl rfl rfl hnt (hk) (zzx hnt rfl ?_ (callH (us := []) [(900000, 5)] [(900001, 3000)] [(900001, 3000)] rfl rfl rfl rfl (hpu) (by repeat' first | exact .nil | refine .lent rfl rfl rfl ?_ | refine .data rfl ?_) (fun _ => rfl) rfl rfl hnt rfl rfl zzi zzi (zzx hnt rfl ?_ (Lex.nil _)))))) ?_
  ·exact zza
  ·exact zza
  ·exact zza
  repeat' first | refine zzs ?_ | refine zzr hnt rfl ?_ ?_ | refine zzd hnt rfl ?_ ?_ | refine zzb ?_ | refine zzk ?_
  ·exact zzt
  exact tr_ret ⟨.inr rfl, _, _, rfl, trivial, rfl⟩
 ·clear ho
  have fa : 0 + 7 ≤ (Cs.es (eEx a)).len := by have := ex7 a; show 0 + 7 ≤ (eEx a).length; omega
  have ga : (eEx a).length = 7 := ex7 a
  have na := lena (left 19)
  have fb : 0 + 7 ≤ (Cs.es (eEx b)).len := by have := ex7 b; show 0 + 7 ≤ (eEx b).length; omega
  have gb : (eEx b).length = 7 := ex7 b
  have nb := lenb (lvF 19 + 1)
  rw [eEx_mk]
  repeat' first | refine zzs ?_ | refine zzb ?_ | refine zzk ?_
  first | refine zzr hnt rfl ?_ ?_ | refine zzd hnt rfl ?_ ?_
  ·exact zzt
  repeat' first | refine zzs ?_ | refine zzb ?_ | refine zzk ?_
  first | refine zzr hnt rfl ?_ ?_ | refine zzd hnt rfl ?_ ?_
  ·exact zzt
  repeat' first | refine zzs ?_ | refine zzb ?_ | refine zzk ?_
  first | refine zzr hnt rfl ?_ ?_ | refine zzd hnt rfl ?_ ?_
  ·exact zzt
  refine tr_le (s' := St.of [(1, .one (.e (eI least))), (2, .one (.ptr 2 0 0)), (5, .one (.ptr 5 0 0)), (6, .one (.clo 89 [(5, 0, 0)]))] [(2, ⟨0, .box (.es [eI 19, eI v.k, eI v.i, eQ v.b, eT v.t, eT n, .sl ((([a, b])).map eEx)]), 0⟩), (5, ⟨0, .box (.ds [.own 3000 0]), 0⟩), (3000, ⟨0, .row 4 ([].map eTok), 0⟩)]) (le_of (ad := [3000]) ⟨zzl, zzl, zzl, zzl, trivial⟩ (memOk_box rfl rfl rfl (memOk_box rfl rfl zzi (memOk_new rfl (by decide) trivial)))) ?_
  have hlv := level_fn 19 (by decide) (by decide)
  repeat' first | refine zzs ?_ | refine zzb ?_ | refine zzk ?_
  refine tr_region (zzx hnt rfl ?_ (call rfl rfl rfl rfl rfl rfl rfl hnt (hlv) (zzx hnt rfl ?_ (Lex.nil _)))) ?_
  ·exact zza
  ·exact zza
  repeat' first | refine zzs ?_ | refine zzb ?_ | refine zzk ?_
  refine tr_cond rfl (fun hc => ?_) (fun hc => ?_)
  ·exact absurd (of_decide_eq_true hc) (by omega)
  repeat' first | refine zzs ?_ | refine zzb ?_ | refine zzk ?_
  refine tr_region (zzx hnt rfl ?_ (call rfl rfl rfl rfl rfl rfl rfl hnt (hlv) (zzx hnt rfl ?_ (Lex.nil _)))) ?_
  ·exact zza
  ·exact zza
  refine tr_le (s' := St.of [(7, .one (.e (eI (lvF 19)))), (2, .one (.ptr 2 0 0)), (5, .one (.ptr 5 0 0)), (6, .one (.clo 89 [(5, 0, 0)]))] [(2, ⟨0, .box (.es [eI 19, eI v.k, eI v.i, eQ v.b, eT v.t, eT n, .sl ((([a, b])).map eEx)]), 0⟩), (5, ⟨0, .box (.ds [.own 3000 0]), 0⟩), (3000, ⟨0, .row 4 (([]).map eTok), 0⟩)]) (le_of (ad := []) ⟨zzl, zzl, zzl, zzl, trivial⟩ (memOk_box rfl rfl rfl (memOk_box rfl rfl zzi (memOk_row rfl rfl rfl trivial)))) ?_
  repeat' (first | refine tr_seq ?_ | refine tr_block ?_ | refine tr_skip ?_ | refine reg (T := tab) tOk hnt rfl (by exact zzt) ?_ | refine regD (T := tab) tOk mixedR hnt rfl (by first | decide +kernel | kernel_rfl) (by exact zzt) ?_ | refine tr_cond rfl (fun hc => ?_) (fun hc => absurd (show true = false from hc) Bool.noConfusion) | refine tr_cond rfl (fun hc => absurd (show false = true from hc) Bool.noConfusion) (fun hc => ?_))
  have hk := iha (left 19)
  rw [← exAll a] at hk
  have hpu := put_fn ([]) (shF a (left 19)) (by first | (simp; done) | (simp; omega))
  repeat' first | refine zzs ?_ | refine zzb ?_ | refine zzk ?_
  refine tr_region (zzx hnt rfl ?_ (call rfl rfl rfl rfl rfl rfl rfl hnt (hk) (zzx hnt rfl ?_ (callH (us := []) [(900000, 5)] [(900001, 3000)] [(900001, 3000)] rfl rfl rfl rfl (hpu) (by repeat' first | exact .nil | refine .lent rfl rfl rfl ?_ | refine .data rfl ?_) (fun _ => rfl) rfl rfl hnt rfl rfl zzi zzi (zzx hnt rfl ?_ (Lex.nil _)))))) ?_
  ·exact zza
  ·exact zza
  ·exact zza
  refine tr_le (s' := St.of [(7, .one (.e (eI (lvF 19)))), (2, .one (.ptr 2 0 0)), (5, .one (.ptr 5 0 0)), (6, .one (.clo 89 [(5, 0, 0)]))] [(2, ⟨0, .box (.es [eI 19, eI v.k, eI v.i, eQ v.b, eT v.t, eT n, .sl ((([a, b])).map eEx)]), 0⟩), (5, ⟨0, .box (.ds [.own 3000 0]), 0⟩), (3000, ⟨0, .row 4 (((shF a (left 19))).map eTok), 0⟩)]) (le_of (ad := []) ⟨zzl, zzl, zzl, zzl, trivial⟩ (memOk_box rfl rfl rfl (memOk_box rfl rfl zzi (memOk_row rfl rfl rfl trivial)))) ?_
  have h1 := (mark_fn 19 (by decide))
  have hpu := put_fn ((shF a (left 19))) ([(mkS 19)]) (by first | (simp; done) | (simp; omega))
  repeat' first | refine zzs ?_ | refine zzb ?_ | refine zzk ?_
  refine tr_region (zzx hnt rfl ?_ (call rfl rfl rfl rfl rfl rfl rfl hnt (h1) (zzx hnt rfl ?_ (callH [(900000, 5)] [(900001, 3000)] [(900001, 3000)] rfl rfl rfl rfl (hpu) (by repeat' first | exact .nil | refine .lent rfl rfl rfl ?_ | refine argsData1 rfl ?_ | refine .data rfl ?_) (ver_upd1 rfl) rfl rfl hnt rfl rfl zzi zzi (zzx hnt rfl ?_ (Lex.nil _)))))) ?_
  ·exact zza
  ·exact zza
  ·exact zza
  refine tr_le (s' := St.of [(7, .one (.e (eI (lvF 19)))), (2, .one (.ptr 2 0 0)), (5, .one (.ptr 5 0 0)), (6, .one (.clo 89 [(5, 0, 0)]))] [(2, ⟨0, .box (.es [eI 19, eI v.k, eI v.i, eQ v.b, eT v.t, eT n, .sl ((([a, b])).map eEx)]), 0⟩), (5, ⟨0, .box (.ds [.own 3000 0]), 0⟩), (3000, ⟨0, .row 4 (((shF a (left 19) ++ [mkS 19])).map eTok), 0⟩)]) (le_of (ad := []) ⟨zzl, zzl, zzl, zzl, trivial⟩ (memOk_box rfl rfl rfl (memOk_box rfl rfl zzi (memOk_row rfl rfl rfl trivial)))) ?_
  have hk := ihb (lvF 19 + 1)
  rw [← exAll b] at hk
  have hpu := put_fn ((shF a (left 19) ++ [mkS 19])) (shF b (lvF 19 + 1)) (by first | (simp; done) | (simp; omega))
  repeat' first | refine zzs ?_ | refine zzb ?_ | refine zzk ?_
  refine tr_region (zzx hnt rfl ?_ (call rfl rfl rfl rfl rfl rfl rfl hnt (hk) (zzx hnt rfl ?_ (callH (us := []) [(900000, 5)] [(900001, 3000)] [(900001, 3000)] rfl rfl rfl rfl (hpu) (by repeat' first | exact .nil | refine .lent rfl rfl rfl ?_ | refine .data rfl ?_) (fun _ => rfl) rfl rfl hnt rfl rfl zzi zzi (zzx hnt rfl ?_ (Lex.nil _)))))) ?_
  ·exact zza
  ·exact zza
  ·exact zza
  repeat' first | refine zzs ?_ | refine zzr hnt rfl ?_ ?_ | refine zzd hnt rfl ?_ ?_ | refine zzb ?_ | refine zzk ?_
  ·exact zzt
  exact tr_ret ⟨.inr rfl, _, _, rfl, trivial, rfl⟩
end Go.Proofs.YtjabmeffgbaglaaDoor
