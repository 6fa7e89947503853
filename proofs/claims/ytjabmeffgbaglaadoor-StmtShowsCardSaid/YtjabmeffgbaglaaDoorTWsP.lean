/- Commands as tokens: what the writer writes. No condition. -/
import Derived.Test.YtjabmeffgbaglaaDoorTXsD
import Derived.Test.YtjabmeffgbaglaaDoorTStA
import Derived.Test.YtjabmeffgbaglaaDoorTXsP
namespace Go.Proofs.YtjabmeffgbaglaaDoor
open Go Go.RowKit Go.Proofs.YtjabmeffgbaglaaDoor.Ab
set_option linter.unusedSimpArgs false
set_option linter.unusedVariables false
set_option maxRecDepth 10000 in
set_option maxHeartbeats 2000000 in
theorem wSign_fn (ac : List Tok) (s : Byt) (hl : ac.length ≤ 100000) : FnH Tryd.prog 16 [] (msP ac) [.one (.ptr 900000 0 0), .one (.e (eT s))] (.tup []) (msP (ac ++ [sgT s])) := by
 refine fn_introH (T := tab) tOk Tryd.func16 rfl (by kernel_rfl) (by simp [Tryd.ntmps16]) rfl rfl ?_
 intro X hX
 have hnt : X.nt = 15 := hX
 clear hX
 have la : (ac.map eTok).length = ac.length := List.length_map ..
 have hq1 : (ac.map eTok).length + 1 ≤ maxLen := by rw [la]; simp only [maxLen]; omega
 have hq2 : ((ac.map eTok).length + 1) * 40 ≤ 140737488355328 := by rw [la]; omega
 repeat' first | refine zzs ?_ | refine zzb ?_ | refine zzk ?_
 first | refine zzr hnt rfl ?_ ?_ | refine zzd hnt rfl ?_ ?_
 ·exact zza
 exact ⟨.inl rfl, _, _, _, rfl, trivial, rfl, fun X => le_of (ad := []) ⟨trivial, ⟨rfl, rfl, rfl, rfl, rfl⟩, trivial⟩ (memOk_box rfl rfl zzi (memOk_row rfl rfl (by rw [List.map_append]; rfl) trivial))⟩
set_option maxRecDepth 10000 in
set_option maxHeartbeats 2000000 in
theorem wName_fn (ac : List Tok) (s : Byt) (hl : ac.length ≤ 100000) : FnH Tryd.prog 15 [] (msP ac) [.one (.ptr 900000 0 0), .one (.e (eT s))] (.tup []) (msP (ac ++ [⟨1, s, 0, 0⟩])) := by
 refine fn_introH (T := tab) tOk Tryd.func15 rfl (by kernel_rfl) (by simp [Tryd.ntmps15]) rfl rfl ?_
 intro X hX
 have hnt : X.nt = 15 := hX
 clear hX
 have la : (ac.map eTok).length = ac.length := List.length_map ..
 have hq1 : (ac.map eTok).length + 1 ≤ maxLen := by rw [la]; simp only [maxLen]; omega
 have hq2 : ((ac.map eTok).length + 1) * 40 ≤ 140737488355328 := by rw [la]; omega
 repeat' first | refine zzs ?_ | refine zzb ?_ | refine zzk ?_
 first | refine zzr hnt rfl ?_ ?_ | refine zzd hnt rfl ?_ ?_
 ·exact zza
 exact ⟨.inl rfl, _, _, _, rfl, trivial, rfl, fun X => le_of (ad := []) ⟨trivial, ⟨rfl, rfl, rfl, rfl, rfl⟩, trivial⟩ (memOk_box rfl rfl zzi (memOk_row rfl rfl (by rw [List.map_append]; rfl) trivial))⟩
set_option maxRecDepth 10000 in
set_option maxHeartbeats 2000000 in
theorem wNumber_fn (ac : List Tok) (n : Int) (hl : ac.length ≤ 100000) : FnH Tryd.prog 28 [] (msP ac) [.one (.ptr 900000 0 0), .one (.e (eI n))] (.tup []) (msP (ac ++ [⟨3, [], n, 0⟩])) := by
 refine fn_introH (T := tab) tOk Tryd.func28 rfl (by kernel_rfl) (by simp [Tryd.ntmps28]) rfl rfl ?_
 intro X hX
 have hnt : X.nt = 15 := hX
 clear hX
 have la : (ac.map eTok).length = ac.length := List.length_map ..
 have hq1 : (ac.map eTok).length + 1 ≤ maxLen := by rw [la]; simp only [maxLen]; omega
 have hq2 : ((ac.map eTok).length + 1) * 40 ≤ 140737488355328 := by rw [la]; omega
 repeat' first | refine zzs ?_ | refine zzb ?_ | refine zzk ?_
 first | refine zzr hnt rfl ?_ ?_ | refine zzd hnt rfl ?_ ?_
 ·exact zza
 exact ⟨.inl rfl, _, _, _, rfl, trivial, rfl, fun X => le_of (ad := []) ⟨trivial, ⟨rfl, rfl, rfl, rfl, rfl⟩, trivial⟩ (memOk_box rfl rfl zzi (memOk_row rfl rfl (by rw [List.map_append]; rfl) trivial))⟩
set_option maxRecDepth 10000 in
set_option maxHeartbeats 2000000 in
theorem words_fn (ac : List Tok) (s : Byt) (ws : List Byt) (hl : ac.length + ws.length ≤ 100000) (hF : FnG Tryd.prog 57 [(3, spE)] [.one (.e (eT s))] (.one (.e (.sl (ws.map fun t => [eT t]))))) : FnH Tryd.prog 14 ([(3, spE)]) (msP ac) [.one (.ptr 900000 0 0), .one (.e (eT s))] (.tup []) (msP (ac ++ ws.map wdT)) := by
 refine fn_introH (T := tab) tOk Tryd.func14 rfl (by kernel_rfl) (by simp [Tryd.ntmps14]) rfl rfl ?_
 intro X hX
 have hnt : X.nt = 25 := hX
 clear hX
 have lw : (ws.map fun t => [eT t]).length = ws.length := List.length_map ..
 repeat' first | refine zzs ?_ | refine zzb ?_ | refine zzk ?_
 refine tr_region (zzx hnt rfl ?_ (callV rfl rfl rfl rfl rfl rfl rfl hnt rfl (hF) (zzx hnt rfl ?_ (Lex.nil _)))) ?_
 ·exact zza
 ·exact zza
 repeat' first | refine zzs ?_ | refine zzb ?_ | refine zzk ?_
 refine tr_loop (σ := Nat) (fun i => St.of [(0, .one (.ptr 900000 0 0)), (7, .one (.e (.sl (ws.map fun t => [eT t])))), (8, .one (.e (eI ((ws.map fun t => [eT t]).length : Int)))), (9, .one (.e (eI (i : Int)))), (900000, .one (.ptr 900000 0 0)), ((1000000 + 3), .one (.eptr spE))] [(900000, ⟨0, .box (.ds [.own 900001 0]), 0⟩), (900001, ⟨0, .row 4 ((ac ++ (ws.take i).map wdT).map eTok), 0⟩)]) (fun i => i ≤ ws.length) (fun i => ws.length - i) (0) (le_of (ad := []) ⟨zzl, zzl, zzl, zzl, zzl, zzl, trivial⟩ (memOk_box rfl rfl zzi (memOk_row rfl rfl (by rw [List.take_zero]; exact congrArg (List.map eTok) (List.append_nil ac).symm) trivial))) (Nat.zero_le _) ?_
 rintro i il
 repeat' first | refine zzs ?_ | refine zzr hnt rfl ?_ ?_ | refine zzd hnt rfl ?_ ?_ | refine zzb ?_ | refine zzk ?_
 ·exact zzt
 repeat' first | refine zzs ?_ | refine zzb ?_ | refine zzk ?_
 refine tr_cond rfl (fun hc => ?_) (fun hc => ?_)
 ·simp only [zz1, zz2, zz3, zz4, zz5, zz6, zz7, zz8] at hc
  (try simp only [lw] at hc)
  (try simp only [zz1, zz2, zz3, zz4, zz5, zz6, zz7, zz8] at hc)
  have hlt : i < ws.length := by omega
  have hg : (ws.map fun t => [eT t]).getD i [] = [eT (ws.getD i [])] := by
   rw [List.getD_eq_getElem?_getD, List.getElem?_map, List.getElem?_eq_getElem hlt, List.getD_eq_getElem?_getD, List.getElem?_eq_getElem hlt]
   rfl
  have htk : ws.take (i + 1) = ws.take i ++ [ws.getD i []] := by
   rw [List.take_add_one, List.getD_eq_getElem?_getD, List.getElem?_eq_getElem hlt]
   rfl
  have la : ((ac ++ (ws.take i).map wdT).map eTok).length = ac.length + i := by
   rw [List.length_map, List.length_append, List.length_map, List.length_take]
   omega
  have hq1 : ((ac ++ (ws.take i).map wdT).map eTok).length + 1 ≤ maxLen := by rw [la]; simp only [maxLen]; omega
  have hq2 : (((ac ++ (ws.take i).map wdT).map eTok).length + 1) * 40 ≤ 140737488355328 := by rw [la]; omega
  repeat' first | refine zzs ?_ | refine zzb ?_ | refine zzk ?_
  first | refine zzr hnt rfl ?_ ?_ | refine zzd hnt rfl ?_ ?_
  ·rw [Int.toNat_natCast, hg, lw]
   exact zza
  rw [Int.toNat_natCast, hg]
  generalize ws.getD i [] = x at *
  have he : ((ac ++ (ws.take i).map wdT).map eTok) ++ [eTok (wdT x)] = (ac ++ (ws.take (i + 1)).map wdT).map eTok := by
   rw [htk]
   simp
  repeat' first | refine zzs ?_ | refine zzb ?_ | refine zzk ?_
  first | refine zzr hnt rfl ?_ ?_ | refine zzd hnt rfl ?_ ?_
  ·exact zza
  repeat' first | refine zzs ?_ | refine zzr hnt rfl ?_ ?_ | refine zzd hnt rfl ?_ ?_ | refine zzb ?_ | refine zzk ?_
  ·exact zzt
  refine ⟨i + 1, hlt, by omega, le_of (ad := []) ⟨zzl, zzl, zzl, zzl, zzl, zzl, trivial⟩ (memOk_box rfl rfl zzi (memOk_row rfl rfl he trivial))⟩
 simp only [zz1, zz2, zz3, zz4, zz5, zz6, zz7, zz8] at hc
 (try simp only [lw] at hc)
 (try simp only [zz1, zz2, zz3, zz4, zz5, zz6, zz7, zz8] at hc)
 have hi : i = ws.length := by omega
 rw [hi, List.take_length]
 refine tr_exit ?_
 exact ⟨.inl rfl, _, _, _, rfl, trivial, rfl, fun X => le_of (ad := []) ⟨trivial, ⟨rfl, rfl, rfl, rfl, rfl⟩, trivial⟩ (memOk_box rfl rfl zzi (memOk_row rfl rfl rfl trivial))⟩
end Go.Proofs.YtjabmeffgbaglaaDoor
namespace Go.Proofs.YtjabmeffgbaglaaDoor
open Go Go.RowKit Go.Proofs.YtjabmeffgbaglaaDoor.Ab
set_option linter.unusedSimpArgs false
set_option linter.unusedVariables false
def nuT (n : Int) : Tok := ⟨3, [], n, 0⟩
def naT (s : Byt) : Tok := ⟨1, s, 0, 0⟩
def lsT : List (List Tok) → List Tok
 | [] => []
 | a :: r => a ++ (r.map fun x => sgT [44] :: x).flatten
def cmm (i : Nat) : List Tok := if 0 < i then [sgT [44]] else []
theorem lsT_snoc (l : List (List Tok)) (x : List Tok) : lsT (l ++ [x]) = lsT l ++ cmm l.length ++ x := by
 cases l with
 | nil => simp [lsT, cmm]
 | cons a r => simp [lsT, cmm]
theorem lsT_len (B : Nat) : ∀ l : List (List Tok), (∀ x ∈ l, x.length ≤ B) → (lsT l).length ≤ (B + 1) * l.length
 | [], _ => Nat.zero_le _
 | a :: r, h => by
  have ha := h a List.mem_cons_self
  have hr : ((r.map fun x => sgT [44] :: x).flatten).length ≤ (B + 1) * r.length := by
   have hr := fun x hx => h x (List.mem_cons_of_mem _ hx)
   clear h ha
   induction r with
   | nil => exact Nat.zero_le _
   | cons b r ih =>
    have h1 := ih (fun x hx => hr x (List.mem_cons_of_mem _ hx))
    have h2 := hr b List.mem_cons_self
    rw [List.map_cons, List.flatten_cons, List.length_append, List.length_cons, List.length_cons, Nat.mul_succ]
    omega
  rw [lsT, List.length_append, List.length_cons, Nat.mul_succ]
  omega
def kwT (k : Int) : Byt := if k = 1 then [66, 79, 79, 76] else if k = 2 then [73, 78, 84] else if k = 3 then [82, 69, 65, 76] else [84, 69, 88, 84]
def rwT (k : Int) : Byt := if k = 1 then [82, 69, 65, 68] else [87, 82, 73, 84, 69]
def awT (k : Int) : Byt := if k = 1 then [67, 79, 85, 78, 84] else if k = 2 then [83, 85, 77] else if k = 3 then [77, 73, 78] else [77, 65, 88]
def ngV (v : Val) : Prop := v.k = 2 ∧ v.i < 0
instance (v : Val) : Decidable (ngV v) := inferInstanceAs (Decidable (_ ∧ _))
def vlT (v : Val) : List Tok := if ngV v then [sgT [45], ltT ⟨v.k, -v.i, v.b, v.t⟩] else [ltT v]
def whT (x : Ex) : List Tok := if noC x then [] else wdT [87, 72, 69, 82, 69] :: shX x
def tbT (c : Cmd) : List Tok := [nuT c.ow, sgT [46], naT c.tb]
def ofT (c : Cmd) (b : Bool) : List Tok := tbT c ++ if b then [wdT [68, 82, 65, 87, 69, 82], nuT c.dr] else []
def coT (k : Colm) : List Tok := [naT k.n, wdT (kwT k.k)] ++ if k.u then [] else [wdT [78, 79, 84], wdT [78, 85, 76, 76]]
def seT (s : CSet) : List Tok := [naT s.c, sgT [61]] ++ shX s.x
def itT (t : Itm) : List Tok := if t.a = 0 then shX t.x else [wdT (awT t.a), sgT [40]] ++ (if t.a = 1 then [sgT [42]] else shX t.x) ++ [sgT [41]]
def soT (s : QSo) : List Tok := [nuT s.i] ++ if s.d then [wdT [68, 69, 83, 67]] else []
def quT (c : Cmd) : List Tok :=
 [wdT [83, 69, 76, 69, 67, 84]] ++ lsT (c.q.is.map itT) ++ [wdT [70, 82, 79, 77]] ++ tbT c ++ whT c.q.w ++ (if c.q.g = [] then [] else [wdT [71, 82, 79, 85, 80], wdT [66, 89], naT c.q.g]) ++ (if c.q.ss = [] then [] else [wdT [79, 82, 68, 69, 82], wdT [66, 89]] ++ lsT (c.q.ss.map soT)) ++ (if c.q.c then [wdT [76, 73, 77, 73, 84], nuT c.q.m] else [])
def cmT (c : Cmd) : List Tok :=
 if c.k = 1 then [wdT [67, 82, 69, 65, 84, 69], wdT [84, 65, 66, 76, 69], naT c.tb, sgT [40]] ++ lsT (c.cs.map coT) ++ [sgT [41]]
 else if c.k = 2 then [wdT [73, 78, 83, 69, 82, 84], wdT [73, 78, 84, 79]] ++ ofT c true ++ [wdT [86, 65, 76, 85, 69, 83], sgT [40]] ++ lsT (c.ro.map vlT) ++ [sgT [41]]
 else if c.k = 3 then [wdT [85, 80, 68, 65, 84, 69]] ++ ofT c true ++ [wdT [83, 69, 84]] ++ lsT (c.ss.map seT) ++ whT c.wh
 else if c.k = 4 then [wdT [68, 69, 76, 69, 84, 69], wdT [70, 82, 79, 77]] ++ ofT c true ++ whT c.wh
 else if c.k = 5 then quT c
 else if c.k = 6 then [wdT [71, 82, 65, 78, 84], wdT (rwT c.rt), wdT [79, 78]] ++ ofT c true ++ [wdT [84, 79], nuT c.to] ++ (if c.op then [wdT [87, 73, 84, 72], wdT [79, 80, 84, 73, 79, 78]] else [])
 else [wdT [82, 69, 86, 79, 75, 69], wdT (rwT c.rt), wdT [79, 78]] ++ ofT c true ++ [wdT [70, 82, 79, 77], nuT c.to]
def gW : List (Nat × List E) := [(4, fsE), (5, acE), (3, spE)]
def msX (cs : List E) (ac : List Tok) : List (Nat × Blk) := [(900000, ⟨0, .box (.ds [.own 900001 0]), 0⟩), (900001, ⟨0, .row 4 (ac.map eTok), 0⟩), (900002, ⟨0, .box (.ds [.ptr 900000 0 0]), 0⟩), (900003, ⟨0, .box (.es cs), 0⟩)]
set_option maxRecDepth 10000 in
set_option maxHeartbeats 2000000 in
theorem list_c (f : Nat) (ts : List (List Tok)) (c : Cmd) (ac : List Tok) (B : Nat) (hB : ∀ x ∈ ts, x.length ≤ B) (hl : ac.length + (B + 1) * ts.length ≤ 100000) (hf : ∀ (i : Nat) (bc : List Tok), i < ts.length → bc.length + B ≤ 100000 → FnH Tryd.prog f gW (msX (eCmd c) bc) [.one (.e (eI (i : Int))), .one (.ptr 900002 0 0), .one (.ptr 900003 0 0)] (.tup []) (msX (eCmd c) (bc ++ ts.getD i []))) : FnH Tryd.prog 17 (gW) (msX (eCmd c) ac) [.one (.ptr 900000 0 0), .one (.e (eI (ts.length : Int))), .one (.clo f [(900002, 0, 0), (900003, 0, 0)])] (.tup []) (msX (eCmd c) (ac ++ lsT ts)) := by
 refine fn_introH (T := tab) tOk Tryd.func17 rfl (by kernel_rfl) (by simp [Tryd.ntmps17]) rfl rfl ?_
 intro X hX
 have hnt : X.nt = 19 := hX
 clear hX
 repeat' first | refine zzs ?_ | refine zzb ?_ | refine zzk ?_
 first | refine zzr hnt rfl ?_ ?_ | refine zzd hnt rfl ?_ ?_
 ·exact zzt
 repeat' first | refine zzs ?_ | refine zzb ?_ | refine zzk ?_
 refine tr_loop (σ := Nat) (fun i => St.of [(0, .one (.ptr 900000 0 0)), (2, .one (.clo f [(900002, 0, 0), (900003, 0, 0)])), (7, .one (.e (eI (ts.length : Int)))), (8, .one (.e (eI (i : Int)))), (900000, .one (.ptr 900000 0 0)), (900002, .one (.ptr 900002 0 0)), (900003, .one (.ptr 900003 0 0)), ((1000000 + 4), .one (.eptr fsE)), ((1000000 + 5), .one (.eptr acE)), ((1000000 + 3), .one (.eptr spE))] [(900000, ⟨0, .box (.ds [.own 900001 0]), 0⟩), (900001, ⟨0, .row 4 ((ac ++ lsT (ts.take i)).map eTok), 0⟩), (900002, ⟨0, .box (.ds [.ptr 900000 0 0]), 0⟩), (900003, ⟨0, .box (.es (eCmd c)), 0⟩)]) (fun i => i ≤ ts.length) (fun i => ts.length - i) (0) (le_of (ad := []) ⟨zzl, zzl, zzl, zzl, zzl, zzl, zzl, zzl, zzl, zzl, trivial⟩ (memOk_box rfl rfl zzi (memOk_row rfl rfl (by rw [List.take_zero]; exact (congrArg (List.map eTok) (List.append_nil ac)).symm) (memOk_box rfl rfl zzi (memOk_box rfl rfl rfl trivial))))) (Nat.zero_le _) ?_
 rintro i il
 repeat' first | refine zzs ?_ | refine zzr hnt rfl ?_ ?_ | refine zzd hnt rfl ?_ ?_ | refine zzb ?_ | refine zzk ?_
 ·exact zzt
 repeat' first | refine zzs ?_ | refine zzb ?_ | refine zzk ?_
 refine tr_cond rfl (fun hc => ?_) (fun hc => ?_)
 ·simp only [zz1, zz2, zz3, zz4, zz5, zz6, zz7, zz8] at hc
  have hlt : i < ts.length := by omega
  have hn : ts.length ≤ 100000 := Nat.le_trans (Nat.le_mul_of_pos_left _ (Nat.succ_pos B)) (by omega : (B + 1) * ts.length ≤ 100000)
  have htl : (ts.take i).length = i := by rw [List.length_take]; omega
  have htk : ts.take (i + 1) = ts.take i ++ [ts.getD i []] := by
   rw [List.take_add_one, List.getD_eq_getElem?_getD, List.getElem?_eq_getElem hlt]
   rfl
  have hlb := lsT_len B (ts.take i) (fun x hx => hB x (List.mem_of_mem_take hx))
  rw [htl] at hlb
  have hmul : (B + 1) * (i + 1) ≤ (B + 1) * ts.length := Nat.mul_le_mul_left _ hlt
  rw [Nat.mul_succ] at hmul
  have hnx : ac ++ lsT (ts.take (i + 1)) = ac ++ lsT (ts.take i) ++ cmm i ++ ts.getD i [] := by
   rw [htk, lsT_snoc, htl]
   simp only [List.append_assoc]
  have hcm : cmm i = if 0 < i then [sgT [44]] else [] := rfl
  have hcl : (cmm i).length ≤ 1 := by
   rw [hcm]
   split <;> decide
  have hg := hf i (ac ++ lsT (ts.take i) ++ cmm i) hlt (by simp only [List.length_append]; omega)
  rw [← hnx] at hg
  repeat' first | refine zzs ?_ | refine zzr hnt rfl ?_ ?_ | refine zzd hnt rfl ?_ ?_ | refine zzb ?_ | refine zzk ?_
  ·exact zzt
  ·exact zzt
  repeat' first | refine zzs ?_ | refine zzb ?_ | refine zzk ?_
  refine tr_cond rfl (fun hc => ?_) (fun hc => ?_)
  ·simp only [zz1, zz2, zz3, zz4, zz5, zz6, zz7, zz8] at hc
   rw [if_pos (by omega)] at hcm
   rw [hcm] at hg
   have hs := wSign_fn (ac ++ lsT (ts.take i)) [44] (by simp only [List.length_append]; omega)
   repeat' first | refine zzs ?_ | refine zzb ?_ | refine zzk ?_
   refine tr_region (zzx hnt rfl ?_ (callH (us := []) [(900000, 900000)] [(900001, 900001)] [(900001, 900001)] rfl rfl rfl rfl (hs) (by repeat' first | exact .nil | refine .lent rfl rfl rfl ?_ | refine .data rfl ?_) (fun _ => rfl) rfl rfl hnt rfl rfl zzi zzi (zzx hnt rfl ?_ (Lex.nil _)))) ?_
   ·exact zza
   ·exact zza
   repeat' first | refine zzs ?_ | refine zzb ?_ | refine zzk ?_
   refine tr_region (zzx hnt rfl ?_ (callH (us := []) [(900000, 900000), (900002, 900002), (900003, 900003)] [(900001, 900001)] [(900001, 900001)] rfl rfl rfl rfl (hg) (by repeat' first | exact .nil | refine .lent rfl rfl rfl ?_ | refine .data rfl ?_) (fun _ => rfl) rfl rfl hnt rfl rfl zzi zzi (zzx hnt rfl ?_ (Lex.nil _)))) ?_
   ·exact zza
   ·exact zza
   repeat' first | refine zzs ?_ | refine zzr hnt rfl ?_ ?_ | refine zzd hnt rfl ?_ ?_ | refine zzb ?_ | refine zzk ?_
   ·exact zzt
   refine ⟨i + 1, hlt, by omega, le_of (ad := []) ⟨zzl, zzl, zzl, zzl, zzl, zzl, zzl, zzl, zzl, zzl, trivial⟩ (memOk_box rfl rfl zzi (memOk_row rfl rfl rfl (memOk_box rfl rfl zzi (memOk_box rfl rfl rfl trivial))))⟩
  simp only [zz1, zz2, zz3, zz4, zz5, zz6, zz7, zz8] at hc
  rw [if_neg (by omega)] at hcm
  rw [hcm, List.append_nil] at hg
  repeat' first | refine zzs ?_ | refine zzb ?_ | refine zzk ?_
  refine tr_region (zzx hnt rfl ?_ (callH (us := []) [(900000, 900000), (900002, 900002), (900003, 900003)] [(900001, 900001)] [(900001, 900001)] rfl rfl rfl rfl (hg) (by repeat' first | exact .nil | refine .lent rfl rfl rfl ?_ | refine .data rfl ?_) (fun _ => rfl) rfl rfl hnt rfl rfl zzi zzi (zzx hnt rfl ?_ (Lex.nil _)))) ?_
  ·exact zza
  ·exact zza
  repeat' first | refine zzs ?_ | refine zzr hnt rfl ?_ ?_ | refine zzd hnt rfl ?_ ?_ | refine zzb ?_ | refine zzk ?_
  ·exact zzt
  refine ⟨i + 1, hlt, by omega, le_of (ad := []) ⟨zzl, zzl, zzl, zzl, zzl, zzl, zzl, zzl, zzl, zzl, trivial⟩ (memOk_box rfl rfl zzi (memOk_row rfl rfl rfl (memOk_box rfl rfl zzi (memOk_box rfl rfl rfl trivial))))⟩
 simp only [zz1, zz2, zz3, zz4, zz5, zz6, zz7, zz8] at hc
 have hi : i = ts.length := by omega
 rw [hi, List.take_length]
 refine tr_exit ?_
 exact ⟨.inl rfl, _, _, _, rfl, trivial, rfl, fun X => le_of (ad := []) ⟨trivial, ⟨rfl, rfl, rfl, rfl, rfl⟩, ⟨rfl, rfl, rfl, rfl, rfl⟩, ⟨rfl, rfl, rfl, rfl, rfl⟩, trivial⟩ (memOk_box rfl rfl zzi (memOk_row rfl rfl rfl (memOk_box rfl rfl zzi (memOk_box rfl rfl rfl trivial))))⟩
set_option maxRecDepth 10000 in
set_option maxHeartbeats 2000000 in
theorem list_q5 (f : Nat) (ts : List (List Tok)) (c : Qry) (ac : List Tok) (B : Nat) (hB : ∀ x ∈ ts, x.length ≤ B) (hl : ac.length + (B + 1) * ts.length ≤ 100000) (hf : ∀ (i : Nat) (bc : List Tok), i < ts.length → bc.length + B ≤ 100000 → FnH Tryd.prog f gW (msX (eQry c) bc) [.one (.e (eI (i : Int))), .one (.ptr 900002 0 0), .one (.ptr 900003 0 0)] (.tup []) (msX (eQry c) (bc ++ ts.getD i []))) : FnH Tryd.prog 17 (gW) (msX (eQry c) ac) [.one (.ptr 900000 0 0), .one (.e (eI (ts.length : Int))), .one (.clo f [(900002, 0, 0), (900003, 0, 0)])] (.tup []) (msX (eQry c) (ac ++ lsT ts)) := by
 refine fn_introH (T := tab) tOk Tryd.func17 rfl (by kernel_rfl) (by simp [Tryd.ntmps17]) rfl rfl ?_
 intro X hX
 have hnt : X.nt = 19 := hX
 clear hX
 repeat' first | refine zzs ?_ | refine zzb ?_ | refine zzk ?_
 first | refine zzr hnt rfl ?_ ?_ | refine zzd hnt rfl ?_ ?_
 ·exact zzt
 repeat' first | refine zzs ?_ | refine zzb ?_ | refine zzk ?_
 refine tr_loop (σ := Nat) (fun i => St.of [(0, .one (.ptr 900000 0 0)), (2, .one (.clo f [(900002, 0, 0), (900003, 0, 0)])), (7, .one (.e (eI (ts.length : Int)))), (8, .one (.e (eI (i : Int)))), (900000, .one (.ptr 900000 0 0)), (900002, .one (.ptr 900002 0 0)), (900003, .one (.ptr 900003 0 0)), ((1000000 + 4), .one (.eptr fsE)), ((1000000 + 5), .one (.eptr acE)), ((1000000 + 3), .one (.eptr spE))] [(900000, ⟨0, .box (.ds [.own 900001 0]), 0⟩), (900001, ⟨0, .row 4 ((ac ++ lsT (ts.take i)).map eTok), 0⟩), (900002, ⟨0, .box (.ds [.ptr 900000 0 0]), 0⟩), (900003, ⟨0, .box (.es (eQry c)), 0⟩)]) (fun i => i ≤ ts.length) (fun i => ts.length - i) (0) (le_of (ad := []) ⟨zzl, zzl, zzl, zzl, zzl, zzl, zzl, zzl, zzl, zzl, trivial⟩ (memOk_box rfl rfl zzi (memOk_row rfl rfl (by rw [List.take_zero]; exact (congrArg (List.map eTok) (List.append_nil ac)).symm) (memOk_box rfl rfl zzi (memOk_box rfl rfl rfl trivial))))) (Nat.zero_le _) ?_
 rintro i il
 repeat' first | refine zzs ?_ | refine zzr hnt rfl ?_ ?_ | refine zzd hnt rfl ?_ ?_ | refine zzb ?_ | refine zzk ?_
 ·exact zzt
 repeat' first | refine zzs ?_ | refine zzb ?_ | refine zzk ?_
 refine tr_cond rfl (fun hc => ?_) (fun hc => ?_)
 ·simp only [zz1, zz2, zz3, zz4, zz5, zz6, zz7, zz8] at hc
  have hlt : i < ts.length := by omega
  have hn : ts.length ≤ 100000 := Nat.le_trans (Nat.le_mul_of_pos_left _ (Nat.succ_pos B)) (by omega : (B + 1) * ts.length ≤ 100000)
  have htl : (ts.take i).length = i := by rw [List.length_take]; omega
  have htk : ts.take (i + 1) = ts.take i ++ [ts.getD i []] := by
   rw [List.take_add_one, List.getD_eq_getElem?_getD, List.getElem?_eq_getElem hlt]
   rfl
  have hlb := lsT_len B (ts.take i) (fun x hx => hB x (List.mem_of_mem_take hx))
  rw [htl] at hlb
  have hmul : (B + 1) * (i + 1) ≤ (B + 1) * ts.length := Nat.mul_le_mul_left _ hlt
  rw [Nat.mul_succ] at hmul
  have hnx : ac ++ lsT (ts.take (i + 1)) = ac ++ lsT (ts.take i) ++ cmm i ++ ts.getD i [] := by
   rw [htk, lsT_snoc, htl]
   simp only [List.append_assoc]
  have hcm : cmm i = if 0 < i then [sgT [44]] else [] := rfl
  have hcl : (cmm i).length ≤ 1 := by
   rw [hcm]
   split <;> decide
  have hg := hf i (ac ++ lsT (ts.take i) ++ cmm i) hlt (by simp only [List.length_append]; omega)
  rw [← hnx] at hg
  repeat' first | refine zzs ?_ | refine zzr hnt rfl ?_ ?_ | refine zzd hnt rfl ?_ ?_ | refine zzb ?_ | refine zzk ?_
  ·exact zzt
  ·exact zzt
  repeat' first | refine zzs ?_ | refine zzb ?_ | refine zzk ?_
  refine tr_cond rfl (fun hc => ?_) (fun hc => ?_)
  ·simp only [zz1, zz2, zz3, zz4, zz5, zz6, zz7, zz8] at hc
   rw [if_pos (by omega)] at hcm
   rw [hcm] at hg
   have hs := wSign_fn (ac ++ lsT (ts.take i)) [44] (by simp only [List.length_append]; omega)
   repeat' first | refine zzs ?_ | refine zzb ?_ | refine zzk ?_
   refine tr_region (zzx hnt rfl ?_ (callH (us := []) [(900000, 900000)] [(900001, 900001)] [(900001, 900001)] rfl rfl rfl rfl (hs) (by repeat' first | exact .nil | refine .lent rfl rfl rfl ?_ | refine .data rfl ?_) (fun _ => rfl) rfl rfl hnt rfl rfl zzi zzi (zzx hnt rfl ?_ (Lex.nil _)))) ?_
   ·exact zza
   ·exact zza
   repeat' first | refine zzs ?_ | refine zzb ?_ | refine zzk ?_
   refine tr_region (zzx hnt rfl ?_ (callH (us := []) [(900000, 900000), (900002, 900002), (900003, 900003)] [(900001, 900001)] [(900001, 900001)] rfl rfl rfl rfl (hg) (by repeat' first | exact .nil | refine .lent rfl rfl rfl ?_ | refine .data rfl ?_) (fun _ => rfl) rfl rfl hnt rfl rfl zzi zzi (zzx hnt rfl ?_ (Lex.nil _)))) ?_
   ·exact zza
   ·exact zza
   repeat' first | refine zzs ?_ | refine zzr hnt rfl ?_ ?_ | refine zzd hnt rfl ?_ ?_ | refine zzb ?_ | refine zzk ?_
   ·exact zzt
   refine ⟨i + 1, hlt, by omega, le_of (ad := []) ⟨zzl, zzl, zzl, zzl, zzl, zzl, zzl, zzl, zzl, zzl, trivial⟩ (memOk_box rfl rfl zzi (memOk_row rfl rfl rfl (memOk_box rfl rfl zzi (memOk_box rfl rfl rfl trivial))))⟩
  simp only [zz1, zz2, zz3, zz4, zz5, zz6, zz7, zz8] at hc
  rw [if_neg (by omega)] at hcm
  rw [hcm, List.append_nil] at hg
  repeat' first | refine zzs ?_ | refine zzb ?_ | refine zzk ?_
  refine tr_region (zzx hnt rfl ?_ (callH (us := []) [(900000, 900000), (900002, 900002), (900003, 900003)] [(900001, 900001)] [(900001, 900001)] rfl rfl rfl rfl (hg) (by repeat' first | exact .nil | refine .lent rfl rfl rfl ?_ | refine .data rfl ?_) (fun _ => rfl) rfl rfl hnt rfl rfl zzi zzi (zzx hnt rfl ?_ (Lex.nil _)))) ?_
  ·exact zza
  ·exact zza
  repeat' first | refine zzs ?_ | refine zzr hnt rfl ?_ ?_ | refine zzd hnt rfl ?_ ?_ | refine zzb ?_ | refine zzk ?_
  ·exact zzt
  refine ⟨i + 1, hlt, by omega, le_of (ad := []) ⟨zzl, zzl, zzl, zzl, zzl, zzl, zzl, zzl, zzl, zzl, trivial⟩ (memOk_box rfl rfl zzi (memOk_row rfl rfl rfl (memOk_box rfl rfl zzi (memOk_box rfl rfl rfl trivial))))⟩
 simp only [zz1, zz2, zz3, zz4, zz5, zz6, zz7, zz8] at hc
 have hi : i = ts.length := by omega
 rw [hi, List.take_length]
 refine tr_exit ?_
 exact ⟨.inl rfl, _, _, _, rfl, trivial, rfl, fun X => le_of (ad := []) ⟨trivial, ⟨rfl, rfl, rfl, rfl, rfl⟩, ⟨rfl, rfl, rfl, rfl, rfl⟩, ⟨rfl, rfl, rfl, rfl, rfl⟩, trivial⟩ (memOk_box rfl rfl zzi (memOk_row rfl rfl rfl (memOk_box rfl rfl zzi (memOk_box rfl rfl rfl trivial))))⟩
set_option maxRecDepth 10000 in
set_option maxHeartbeats 2000000 in
theorem list_q4 (f : Nat) (ts : List (List Tok)) (c : Qry) (ac : List Tok) (B : Nat) (hB : ∀ x ∈ ts, x.length ≤ B) (hl : ac.length + (B + 1) * ts.length ≤ 100000) (hf : ∀ (i : Nat) (bc : List Tok), i < ts.length → bc.length + B ≤ 100000 → FnH Tryd.prog f gW (msX (eQry c) bc) [.one (.e (eI (i : Int))), .one (.ptr 900003 0 0), .one (.ptr 900002 0 0)] (.tup []) (msX (eQry c) (bc ++ ts.getD i []))) : FnH Tryd.prog 17 (gW) (msX (eQry c) ac) [.one (.ptr 900000 0 0), .one (.e (eI (ts.length : Int))), .one (.clo f [(900003, 0, 0), (900002, 0, 0)])] (.tup []) (msX (eQry c) (ac ++ lsT ts)) := by
 refine fn_introH (T := tab) tOk Tryd.func17 rfl (by kernel_rfl) (by simp [Tryd.ntmps17]) rfl rfl ?_
 intro X hX
 have hnt : X.nt = 19 := hX
 clear hX
 repeat' first | refine zzs ?_ | refine zzb ?_ | refine zzk ?_
 first | refine zzr hnt rfl ?_ ?_ | refine zzd hnt rfl ?_ ?_
 ·exact zzt
 repeat' first | refine zzs ?_ | refine zzb ?_ | refine zzk ?_
 refine tr_loop (σ := Nat) (fun i => St.of [(0, .one (.ptr 900000 0 0)), (2, .one (.clo f [(900003, 0, 0), (900002, 0, 0)])), (7, .one (.e (eI (ts.length : Int)))), (8, .one (.e (eI (i : Int)))), (900000, .one (.ptr 900000 0 0)), (900002, .one (.ptr 900002 0 0)), (900003, .one (.ptr 900003 0 0)), ((1000000 + 4), .one (.eptr fsE)), ((1000000 + 5), .one (.eptr acE)), ((1000000 + 3), .one (.eptr spE))] [(900000, ⟨0, .box (.ds [.own 900001 0]), 0⟩), (900001, ⟨0, .row 4 ((ac ++ lsT (ts.take i)).map eTok), 0⟩), (900002, ⟨0, .box (.ds [.ptr 900000 0 0]), 0⟩), (900003, ⟨0, .box (.es (eQry c)), 0⟩)]) (fun i => i ≤ ts.length) (fun i => ts.length - i) (0) (le_of (ad := []) ⟨zzl, zzl, zzl, zzl, zzl, zzl, zzl, zzl, zzl, zzl, trivial⟩ (memOk_box rfl rfl zzi (memOk_row rfl rfl (by rw [List.take_zero]; exact (congrArg (List.map eTok) (List.append_nil ac)).symm) (memOk_box rfl rfl zzi (memOk_box rfl rfl rfl trivial))))) (Nat.zero_le _) ?_
 rintro i il
 repeat' first | refine zzs ?_ | refine zzr hnt rfl ?_ ?_ | refine zzd hnt rfl ?_ ?_ | refine zzb ?_ | refine zzk ?_
 ·exact zzt
 repeat' first | refine zzs ?_ | refine zzb ?_ | refine zzk ?_
 refine tr_cond rfl (fun hc => ?_) (fun hc => ?_)
 ·simp only [zz1, zz2, zz3, zz4, zz5, zz6, zz7, zz8] at hc
  have hlt : i < ts.length := by omega
  have hn : ts.length ≤ 100000 := Nat.le_trans (Nat.le_mul_of_pos_left _ (Nat.succ_pos B)) (by omega : (B + 1) * ts.length ≤ 100000)
  have htl : (ts.take i).length = i := by rw [List.length_take]; omega
  have htk : ts.take (i + 1) = ts.take i ++ [ts.getD i []] := by
   rw [List.take_add_one, List.getD_eq_getElem?_getD, List.getElem?_eq_getElem hlt]
   rfl
  have hlb := lsT_len B (ts.take i) (fun x hx => hB x (List.mem_of_mem_take hx))
  rw [htl] at hlb
  have hmul : (B + 1) * (i + 1) ≤ (B + 1) * ts.length := Nat.mul_le_mul_left _ hlt
  rw [Nat.mul_succ] at hmul
  have hnx : ac ++ lsT (ts.take (i + 1)) = ac ++ lsT (ts.take i) ++ cmm i ++ ts.getD i [] := by
   rw [htk, lsT_snoc, htl]
   simp only [List.append_assoc]
  have hcm : cmm i = if 0 < i then [sgT [44]] else [] := rfl
  have hcl : (cmm i).length ≤ 1 := by
   rw [hcm]
   split <;> decide
  have hg := hf i (ac ++ lsT (ts.take i) ++ cmm i) hlt (by simp only [List.length_append]; omega)
  rw [← hnx] at hg
  repeat' first | refine zzs ?_ | refine zzr hnt rfl ?_ ?_ | refine zzd hnt rfl ?_ ?_ | refine zzb ?_ | refine zzk ?_
  ·exact zzt
  ·exact zzt
  repeat' first | refine zzs ?_ | refine zzb ?_ | refine zzk ?_
  refine tr_cond rfl (fun hc => ?_) (fun hc => ?_)
  ·simp only [zz1, zz2, zz3, zz4, zz5, zz6, zz7, zz8] at hc
   rw [if_pos (by omega)] at hcm
   rw [hcm] at hg
   have hs := wSign_fn (ac ++ lsT (ts.take i)) [44] (by simp only [List.length_append]; omega)
   repeat' first | refine zzs ?_ | refine zzb ?_ | refine zzk ?_
   refine tr_region (zzx hnt rfl ?_ (callH (us := []) [(900000, 900000)] [(900001, 900001)] [(900001, 900001)] rfl rfl rfl rfl (hs) (by repeat' first | exact .nil | refine .lent rfl rfl rfl ?_ | refine .data rfl ?_) (fun _ => rfl) rfl rfl hnt rfl rfl zzi zzi (zzx hnt rfl ?_ (Lex.nil _)))) ?_
   ·exact zza
   ·exact zza
   repeat' first | refine zzs ?_ | refine zzb ?_ | refine zzk ?_
   refine tr_region (zzx hnt rfl ?_ (callH (us := []) [(900000, 900000), (900002, 900002), (900003, 900003)] [(900001, 900001)] [(900001, 900001)] rfl rfl rfl rfl (hg) (by repeat' first | exact .nil | refine .lent rfl rfl rfl ?_ | refine .data rfl ?_) (fun _ => rfl) rfl rfl hnt rfl rfl zzi zzi (zzx hnt rfl ?_ (Lex.nil _)))) ?_
   ·exact zza
   ·exact zza
   repeat' first | refine zzs ?_ | refine zzr hnt rfl ?_ ?_ | refine zzd hnt rfl ?_ ?_ | refine zzb ?_ | refine zzk ?_
   ·exact zzt
   refine ⟨i + 1, hlt, by omega, le_of (ad := []) ⟨zzl, zzl, zzl, zzl, zzl, zzl, zzl, zzl, zzl, zzl, trivial⟩ (memOk_box rfl rfl zzi (memOk_row rfl rfl rfl (memOk_box rfl rfl zzi (memOk_box rfl rfl rfl trivial))))⟩
  simp only [zz1, zz2, zz3, zz4, zz5, zz6, zz7, zz8] at hc
  rw [if_neg (by omega)] at hcm
  rw [hcm, List.append_nil] at hg
  repeat' first | refine zzs ?_ | refine zzb ?_ | refine zzk ?_
  refine tr_region (zzx hnt rfl ?_ (callH (us := []) [(900000, 900000), (900002, 900002), (900003, 900003)] [(900001, 900001)] [(900001, 900001)] rfl rfl rfl rfl (hg) (by repeat' first | exact .nil | refine .lent rfl rfl rfl ?_ | refine .data rfl ?_) (fun _ => rfl) rfl rfl hnt rfl rfl zzi zzi (zzx hnt rfl ?_ (Lex.nil _)))) ?_
  ·exact zza
  ·exact zza
  repeat' first | refine zzs ?_ | refine zzr hnt rfl ?_ ?_ | refine zzd hnt rfl ?_ ?_ | refine zzb ?_ | refine zzk ?_
  ·exact zzt
  refine ⟨i + 1, hlt, by omega, le_of (ad := []) ⟨zzl, zzl, zzl, zzl, zzl, zzl, zzl, zzl, zzl, zzl, trivial⟩ (memOk_box rfl rfl zzi (memOk_row rfl rfl rfl (memOk_box rfl rfl zzi (memOk_box rfl rfl rfl trivial))))⟩
 simp only [zz1, zz2, zz3, zz4, zz5, zz6, zz7, zz8] at hc
 have hi : i = ts.length := by omega
 rw [hi, List.take_length]
 refine tr_exit ?_
 exact ⟨.inl rfl, _, _, _, rfl, trivial, rfl, fun X => le_of (ad := []) ⟨trivial, ⟨rfl, rfl, rfl, rfl, rfl⟩, ⟨rfl, rfl, rfl, rfl, rfl⟩, ⟨rfl, rfl, rfl, rfl, rfl⟩, trivial⟩ (memOk_box rfl rfl zzi (memOk_row rfl rfl rfl (memOk_box rfl rfl zzi (memOk_box rfl rfl rfl trivial))))⟩
end Go.Proofs.YtjabmeffgbaglaaDoor
namespace Go.Proofs.YtjabmeffgbaglaaDoor
open Go Go.RowKit Go.Proofs.YtjabmeffgbaglaaDoor.Ab
set_option linter.unusedSimpArgs false
set_option linter.unusedVariables false
theorem len200 {x : Ex} (h : exF x = 0) : (shX x).length ≤ 200 := by
 have h1 := shX_len 40 x (exF_in h).1 (.inr trivial)
 have := (exF_in h).1
 omega
set_option maxRecDepth 10000 in
set_option maxHeartbeats 2000000 in
theorem wExpr_fn (ac : List Tok) (x : Ex) (hx : exOk x) (h0 : exF x = 0) (hl : ac.length ≤ 99000) : FnH Tryd.prog 24 (gW) (msP ac) [.one (.ptr 900000 0 0), .agg (.es (eEx x))] (.tup []) (msP (ac ++ shX x)) := by
 refine fn_introH (T := tab) tOk Tryd.func24 rfl (by kernel_rfl) (by simp [Tryd.ntmps24]) rfl rfl ?_
 intro X hX
 have hnt : X.nt = 20 := hX
 clear hX
 have h7 : 0 + 7 ≤ (Cs.es (eEx x)).len := by have := ex7 x; show 0 + 7 ≤ (eEx x).length; omega
 have e7 : (Cs.es (eEx x)).len = 7 := ex7 x
 have h1 := Show_fn x hx
 have hs := len200 h0
 unfold shR at h1
 rw [if_pos h0, ← exAll x] at h1
 generalize shX x = l at *
 have la : (ac.map eTok).length = ac.length := List.length_map ..
 have ll : (l.map eTok).length = l.length := List.length_map ..
 have hq1 : (ac.map eTok).length + (l.map eTok).length ≤ maxLen := by rw [la, ll]; simp only [maxLen]; omega
 have hq2 : ((ac.map eTok).length + (l.map eTok).length) * 40 ≤ 140737488355328 := by rw [la, ll]; omega
 have h4 : ∀ cs ∈ l.map eTok, cs.length = 4 := fun cs hc => by
  obtain ⟨q, _, rfl⟩ := List.mem_map.1 hc
  rfl
 repeat' first | refine zzs ?_ | refine zzb ?_ | refine zzk ?_
 first | refine zzr hnt rfl ?_ ?_ | refine zzd hnt rfl ?_ ?_
 ·exact zza
 repeat' first | refine zzs ?_ | refine zzb ?_ | refine zzk ?_
 refine tr_region (zzx hnt rfl ?_ (callV rfl rfl rfl rfl rfl rfl rfl hnt rfl (h1) (zzx hnt rfl ?_ (Lex.nil _)))) ?_
 ·exact zza
 ·exact zza
 repeat' first | refine zzs ?_ | refine zzb ?_ | refine zzk ?_
 first | refine zzr hnt rfl ?_ ?_ | refine zzd hnt rfl ?_ ?_
 ·exact zza
 exact ⟨.inl rfl, _, _, _, rfl, trivial, rfl, fun X => le_of (ad := []) ⟨trivial, ⟨rfl, rfl, rfl, rfl, rfl⟩, trivial⟩ (memOk_box rfl rfl zzi (memOk_row rfl rfl (List.map_append ..).symm trivial))⟩
set_option maxRecDepth 10000 in
set_option maxHeartbeats 2000000 in
theorem wWhere_fn (ac : List Tok) (x : Ex) (hx : exOk x) (h0 : cdP x) (hF : FnG Tryd.prog 57 [(3, spE)] [.one (.e (eT [87, 72, 69, 82, 69]))] (.one (.e (.sl ([[87, 72, 69, 82, 69]].map fun t => [eT t]))))) (hl : ac.length ≤ 98000) : FnH Tryd.prog 25 (gW) (msP ac) [.one (.ptr 900000 0 0), .agg (.es (eEx x))] (.tup []) (msP (ac ++ whT x)) := by
 refine fn_introH (T := tab) tOk Tryd.func25 rfl (by kernel_rfl) (by simp [Tryd.ntmps25]) rfl rfl ?_
 intro X hX
 have hnt : X.nt = 12 := hX
 clear hX
 have h7 : 0 + 7 ≤ (Cs.es (eEx x)).len := by have := ex7 x; show 0 + 7 ≤ (eEx x).length; omega
 have e7 : (Cs.es (eEx x)).len = 7 := ex7 x
 have h1 := stNone_fn x
 rw [← exAll x] at h1
 unfold whT
 repeat' first | refine zzs ?_ | refine zzb ?_ | refine zzk ?_
 first | refine zzr hnt rfl ?_ ?_ | refine zzd hnt rfl ?_ ?_
 ·exact zza
 repeat' first | refine zzs ?_ | refine zzb ?_ | refine zzk ?_
 refine tr_region (zzx hnt rfl ?_ (call rfl rfl rfl rfl rfl rfl rfl hnt (h1) (zzx hnt rfl ?_ (Lex.nil _)))) ?_
 ·exact zza
 ·exact zza
 repeat' first | refine zzs ?_ | refine zzb ?_ | refine zzk ?_
 refine tr_cond rfl (fun hc => ?_) (fun hc => ?_)
 ·have hn : ¬ noC x := by
   have hc : (!decide (noC x)) = true := hc
   simpa using hc
  rw [if_neg hn]
  have hx0 : exF x = 0 := h0.resolve_left hn
  have hw := words_fn ac [87, 72, 69, 82, 69] [[87, 72, 69, 82, 69]] (by simp; omega) hF
  repeat' first | refine zzs ?_ | refine zzb ?_ | refine zzk ?_
  refine tr_region (zzx hnt rfl ?_ (callH (us := []) [(900000, 900000)] [(900001, 900001)] [(900001, 900001)] rfl rfl rfl rfl (hw) (by repeat' first | exact .nil | refine .lent rfl rfl rfl ?_ | refine .data rfl ?_) (fun _ => rfl) rfl rfl hnt rfl rfl zzi zzi (zzx hnt rfl ?_ (Lex.nil _)))) ?_
  ·exact zza
  ·exact zza
  have hw := wExpr_fn (ac ++ [[87, 72, 69, 82, 69]].map wdT) x hx hx0 (by simp; omega)
  rw [← exAll x] at hw
  repeat' first | refine zzs ?_ | refine zzb ?_ | refine zzk ?_
  refine tr_region (zzx hnt rfl ?_ (callH (us := []) [(900000, 900000)] [(900001, 900001)] [(900001, 900001)] rfl rfl rfl rfl (hw) (by repeat' first | exact .nil | refine .lent rfl rfl rfl ?_ | refine .data rfl ?_) (fun _ => rfl) rfl rfl hnt rfl rfl zzi zzi (zzx hnt rfl ?_ (Lex.nil _)))) ?_
  ·exact zza
  ·exact zza
  exact ⟨.inl rfl, _, _, _, rfl, trivial, rfl, fun X => le_of (ad := []) ⟨trivial, ⟨rfl, rfl, rfl, rfl, rfl⟩, trivial⟩ (memOk_box rfl rfl zzi (memOk_row rfl rfl (by rw [List.append_assoc]; rfl) trivial))⟩
 have hn : noC x := by
  have hc : (!decide (noC x)) = false := hc
  simpa using hc
 rw [if_pos hn]
 repeat' first | refine zzs ?_ | refine zzb ?_ | refine zzk ?_
 exact ⟨.inl rfl, _, _, _, rfl, trivial, rfl, fun X => le_of (ad := []) ⟨trivial, ⟨rfl, rfl, rfl, rfl, rfl⟩, trivial⟩ (memOk_box rfl rfl zzi (memOk_row rfl rfl (by rw [List.append_nil]) trivial))⟩
theorem chk_t {v : Val} (h : chk v = 0) : v.t.length ≤ 40 := by
 unfold chk at h
 split at h
 ·cases h
 split at h
 ·cases h
 ·omega
theorem lit_nd {v : Val} (h : chk v = 0) (hi : 0 ≤ v.i) : exF (.mk 1 v [] []) = 0 := by
 have hn : nodeF (.mk 1 v [] []) = 0 := (nodeF_zero (x := .mk 1 v [] []) (show (1 : Int) ≤ 1 by decide) (show (1 : Int) ≤ 20 by decide)).2.2 ⟨rfl, ⟨fun e => absurd (show (1 : Int) = 2 from e) (by decide), fun e => absurd rfl e⟩, .inl rfl, fun e => absurd (show (1 : Int) = 2 from e) (by decide), fun _ => ⟨h, hi⟩⟩
 unfold exF
 rw [if_pos (by rw [ht_eq, nodes_eq]; exact ⟨show 1 + 0 ≤ 7 by decide, show 1 + 0 ≤ 40 by decide⟩), ndF_eq, if_neg (not_not_intro hn)]
 rfl
theorem lit_ok {v : Val} (h : chk v = 0) (hv : v.ok) : exOk (.mk 1 v [] []) := by
 have := chk_t h
 rw [exOk]
 exact ⟨by decide, ⟨hv, by simp only [maxLen]; omega⟩, by decide, by decide, trivial⟩
theorem lit_sh (v : Val) : shX (.mk 1 v [] []) = [ltT v] := by
 rw [shX]
 unfold shJ
 rw [if_pos rfl]
def ng0 (v : Val) : Val := ⟨v.k, -v.i, v.b, v.t⟩
theorem ng_chk {v : Val} (h : chk v = 0) (h2 : v.k = 2) : chk (ng0 v) = 0 := by
 unfold chk at h
 split at h
 ·cases h
 rename_i h1
 split at h
 ·cases h
 rename_i h3
 split at h
 ·cases h
 rename_i h4
 show chk ⟨v.k, -v.i, v.b, v.t⟩ = 0
 unfold chk
 rw [if_neg h1, if_neg h3, if_neg (show ¬ ((v.k ≠ 4 ∧ v.t.length ≠ 0) ∨ (v.k ≠ 3 ∧ v.b.toNat ≠ 0) ∨ (v.k ≠ 2 ∧ v.k ≠ 1 ∧ -v.i ≠ 0)) by omega), if_neg (show ¬ (v.k = 1 ∧ -v.i ≠ 0 ∧ -v.i ≠ 1) by omega), if_neg (show ¬ (v.k = 3 ∧ badR v.b = true) from fun e => by have := e.1; omega), if_neg (show ¬ (v.k = 4 ∧ vld v.t = false) from fun e => by have := e.1; omega)]
theorem chk_i {v : Val} (h : chk v = 0) (hn : ¬ ngV v) : 0 ≤ v.i := by
 unfold ngV at hn
 unfold chk at h
 split at h
 ·cases h
 split at h
 ·cases h
 split at h
 ·cases h
 split at h
 ·cases h
 omega
set_option maxRecDepth 10000 in
set_option maxHeartbeats 2000000 in
theorem wValue_fn (ac : List Tok) (v : Val) (hv : v.ok) (hc0 : chk v = 0) (hm : -9223372036854775808 < v.i) (hl : ac.length ≤ 98000) : FnH Tryd.prog 22 (gW) (msP ac) [.one (.ptr 900000 0 0), .agg (.es (eVal v))] (.tup []) (msP (ac ++ vlT v)) := by
 refine fn_introH (T := tab) tOk Tryd.func22 rfl (by kernel_rfl) (by simp [Tryd.ntmps22]) rfl rfl ?_
 intro X hX
 have hnt : X.nt = 22 := hX
 clear hX
 unfold vlT
 repeat' first | refine zzs ?_ | refine zzb ?_ | refine zzk ?_
 first | refine zzr hnt rfl ?_ ?_ | refine zzd hnt rfl ?_ ?_
 ·exact zzt
 repeat' first | refine zzs ?_ | refine zzb ?_ | refine zzk ?_
 first | refine zzr hnt rfl ?_ ?_ | refine zzd hnt rfl ?_ ?_
 ·exact zzt
 repeat' first | refine zzs ?_ | refine zzb ?_ | refine zzk ?_
 refine tr_cond rfl (fun hc => ?_) (fun hc => ?_)
 ·have hn : ngV v := by
   have hc : (bif decide (v.k = 2) then decide (v.i < 0) else false) = true := hc
   by_cases h2 : v.k = 2
   ·rw [decide_eq_true h2] at hc
    exact ⟨h2, of_decide_eq_true hc⟩
   ·rw [decide_eq_false h2] at hc
    cases hc
  rw [if_pos hn]
  obtain ⟨hk2, hi0⟩ := hn
  have hs := wSign_fn ac [45] (by omega)
  repeat' first | refine zzs ?_ | refine zzb ?_ | refine zzk ?_
  refine tr_region (zzx hnt rfl ?_ (callH (us := []) [(900000, 900000)] [(900001, 900001)] [(900001, 900001)] rfl rfl rfl rfl (hs) (by repeat' first | exact .nil | refine .lent rfl rfl rfl ?_ | refine .data rfl ?_) (fun _ => rfl) rfl rfl hnt rfl rfl zzi zzi (zzx hnt rfl ?_ (Lex.nil _)))) ?_
  ·exact zza
  ·exact zza
  repeat' first | refine zzs ?_ | refine zzb ?_ | refine zzk ?_
  first | refine zzr hnt rfl ?_ ?_ | refine zzd hnt rfl ?_ ?_
  ·exact zza
  have hng : IntKind.i64.wrap (0 - v.i) = -v.i := by
   rw [wrap64_id (by omega) (by omega)]
   omega
  have hbx : List.take (0 + 1) (eVal v) ++ [E.v (Value.int IntKind.i64 (IntKind.i64.wrap (0 - v.i)))] ++ List.drop (0 + 1 + 1) (eVal v) = eVal (ng0 v) := by
   rw [hng]
   rfl
  refine tr_le (s' := St.of [(0, .one (.ptr 900000 0 0)), (3, .one (.ptr 3 0 0)), (900000, .one (.ptr 900000 0 0)), ((1000000 + 4), .one (.eptr fsE)), ((1000000 + 5), .one (.eptr acE)), ((1000000 + 3), .one (.eptr spE))] [(900000, ⟨0, .box (.ds [.own 900001 0]), 0⟩), (900001, ⟨0, .row 4 ((ac ++ [sgT [45]]).map eTok), 0⟩), (3, ⟨0, .box (.es (eVal (ng0 v))), 0⟩)]) (le_of (ad := []) ⟨zzl, zzl, zzl, zzl, zzl, zzl, trivial⟩ (memOk_box rfl rfl zzi (memOk_row rfl rfl rfl (memOk_box rfl rfl hbx trivial)))) ?_
  have hok2 : (ng0 v).ok := ⟨hv.1, show -9223372036854775808 ≤ -v.i by omega, show -v.i ≤ 9223372036854775807 by omega⟩
  have hw := wExpr_fn ((ac ++ [sgT [45]])) (.mk 1 (ng0 v) [] []) (lit_ok (ng_chk hc0 hk2) (hok2)) (lit_nd (ng_chk hc0 hk2) (show 0 ≤ -v.i by omega)) (by first | omega | (simp only [List.length_append, List.length_cons, List.length_nil]; omega))
  rw [lit_sh] at hw
  repeat' first | refine zzs ?_ | refine zzb ?_ | refine zzk ?_
  refine tr_region (lexCut 3 (zzx hnt rfl ?_ (Lex.nil _)) (le_of (ad := []) (ts := [(0, .one (.ptr 900000 0 0)), (18, .one (.ptr 900000 0 0)), (20, .agg (.es (eEx (.mk 1 (ng0 v) [] [])))), (900000, .one (.ptr 900000 0 0)), ((1000000 + 4), .one (.eptr fsE)), ((1000000 + 5), .one (.eptr acE)), ((1000000 + 3), .one (.eptr spE))]) (ms := [(900000, ⟨0, .box (.ds [.own 900001 0]), 0⟩), (900001, ⟨0, .row 4 (((ac ++ [sgT [45]])).map eTok), 0⟩)]) (by refine ⟨?_, ?_, ?_, ?_, ?_, ?_, ?_, trivial⟩ <;> first | exact trivial | rfl | (rw [eEx_mk]; repeat' first | exact trivial | rfl | apply And.intro) | (repeat' first | exact trivial | rfl | apply And.intro)) (memOk_box rfl rfl zzi (memOk_row rfl rfl rfl trivial))) rfl (zzx hnt rfl ?_ (callH (us := []) [(900000, 900000)] [(900001, 900001)] [(900001, 900001)] rfl rfl rfl rfl (hw) (by repeat' first | exact .nil | refine .lent rfl rfl rfl ?_ | refine .data rfl ?_) (fun _ => rfl) rfl rfl hnt rfl rfl zzi zzi (zzx hnt rfl ?_ (Lex.nil _))))) ?_
  ·exact zza
  ·exact zza
  ·exact zza
  exact ⟨.inl rfl, _, _, _, rfl, trivial, rfl, fun X => le_of (ad := []) ⟨trivial, ⟨rfl, rfl, rfl, rfl, rfl⟩, trivial⟩ (memOk_box rfl rfl zzi (memOk_row rfl rfl (by rw [List.append_assoc]; rfl) trivial))⟩
 have hn : ¬ ngV v := by
  rintro ⟨h2, h3⟩
  have hc : (bif decide (v.k = 2) then decide (v.i < 0) else false) = false := hc
  rw [decide_eq_true h2, decide_eq_true h3] at hc
  cases hc
 rw [if_neg hn]
 have hi0 : 0 ≤ v.i := chk_i hc0 hn
 have hw := wExpr_fn ((ac)) (.mk 1 (v) [] []) (lit_ok (hc0) (hv)) (lit_nd (hc0) (hi0)) (by first | omega | (simp only [List.length_append, List.length_cons, List.length_nil]; omega))
 rw [lit_sh] at hw
 repeat' first | refine zzs ?_ | refine zzb ?_ | refine zzk ?_
 refine tr_region (lexCut 3 (zzx hnt rfl ?_ (Lex.nil _)) (le_of (ad := []) (ts := [(0, .one (.ptr 900000 0 0)), (18, .one (.ptr 900000 0 0)), (20, .agg (.es (eEx (.mk 1 (v) [] [])))), (900000, .one (.ptr 900000 0 0)), ((1000000 + 4), .one (.eptr fsE)), ((1000000 + 5), .one (.eptr acE)), ((1000000 + 3), .one (.eptr spE))]) (ms := [(900000, ⟨0, .box (.ds [.own 900001 0]), 0⟩), (900001, ⟨0, .row 4 (((ac)).map eTok), 0⟩)]) (by refine ⟨?_, ?_, ?_, ?_, ?_, ?_, ?_, trivial⟩ <;> first | exact trivial | rfl | (rw [eEx_mk]; repeat' first | exact trivial | rfl | apply And.intro) | (repeat' first | exact trivial | rfl | apply And.intro)) (memOk_box rfl rfl zzi (memOk_row rfl rfl rfl trivial))) rfl (zzx hnt rfl ?_ (callH (us := []) [(900000, 900000)] [(900001, 900001)] [(900001, 900001)] rfl rfl rfl rfl (hw) (by repeat' first | exact .nil | refine .lent rfl rfl rfl ?_ | refine .data rfl ?_) (fun _ => rfl) rfl rfl hnt rfl rfl zzi zzi (zzx hnt rfl ?_ (Lex.nil _))))) ?_
 ·exact zza
 ·exact zza
 ·exact zza
 exact ⟨.inl rfl, _, _, _, rfl, trivial, rfl, fun X => le_of (ad := []) ⟨trivial, ⟨rfl, rfl, rfl, rfl, rfl⟩, trivial⟩ (memOk_box rfl rfl zzi (memOk_row rfl rfl rfl trivial))⟩
set_option maxRecDepth 10000 in
set_option maxHeartbeats 2000000 in
theorem wOf_fn (ac : List Tok) (c : Cmd) (b : Bool) (hF : FnG Tryd.prog 57 [(3, spE)] [.one (.e (eT [68, 82, 65, 87, 69, 82]))] (.one (.e (.sl ([[68, 82, 65, 87, 69, 82]].map fun t => [eT t]))))) (hl : ac.length ≤ 98000) : FnH Tryd.prog 20 (gW) (msP ac) [.one (.ptr 900000 0 0), .agg (.es (eCmd c)), .v (.bool b)] (.tup []) (msP (ac ++ ofT c b)) := by
 refine fn_introH (T := tab) tOk Tryd.func20 rfl (by kernel_rfl) (by simp [Tryd.ntmps20]) rfl rfl ?_
 intro X hX
 have hnt : X.nt = 23 := hX
 clear hX
 have f29 : 0 + 29 ≤ (Cs.es (eCmd c)).len := Nat.le_refl 29
 unfold ofT tbT
 repeat' first | refine zzs ?_ | refine zzb ?_ | refine zzk ?_
 first | refine zzr hnt rfl ?_ ?_ | refine zzd hnt rfl ?_ ?_
 ·exact zza
 have h1 := wNumber_fn ac c.ow (by omega)
 repeat' first | refine zzs ?_ | refine zzb ?_ | refine zzk ?_
 refine tr_region (zzx hnt rfl ?_ (callH (us := []) [(900000, 900000)] [(900001, 900001)] [(900001, 900001)] rfl rfl rfl rfl (h1) (by repeat' first | exact .nil | refine .lent rfl rfl rfl ?_ | refine .data rfl ?_) (fun _ => rfl) rfl rfl hnt rfl rfl zzi zzi (zzx hnt rfl ?_ (Lex.nil _)))) ?_
 ·exact zza
 ·exact zza
 have h2 := wSign_fn (ac ++ [⟨3, [], c.ow, 0⟩]) [46] (by simp; omega)
 repeat' first | refine zzs ?_ | refine zzb ?_ | refine zzk ?_
 refine tr_region (zzx hnt rfl ?_ (callH (us := []) [(900000, 900000)] [(900001, 900001)] [(900001, 900001)] rfl rfl rfl rfl (h2) (by repeat' first | exact .nil | refine .lent rfl rfl rfl ?_ | refine .data rfl ?_) (fun _ => rfl) rfl rfl hnt rfl rfl zzi zzi (zzx hnt rfl ?_ (Lex.nil _)))) ?_
 ·exact zza
 ·exact zza
 have h3 := wName_fn (ac ++ [⟨3, [], c.ow, 0⟩] ++ [sgT [46]]) c.tb (by simp; omega)
 repeat' first | refine zzs ?_ | refine zzb ?_ | refine zzk ?_
 refine tr_region (zzx hnt rfl ?_ (callH (us := []) [(900000, 900000)] [(900001, 900001)] [(900001, 900001)] rfl rfl rfl rfl (h3) (by repeat' first | exact .nil | refine .lent rfl rfl rfl ?_ | refine .data rfl ?_) (fun _ => rfl) rfl rfl hnt rfl rfl zzi zzi (zzx hnt rfl ?_ (Lex.nil _)))) ?_
 ·exact zza
 ·exact zza
 repeat' first | refine zzs ?_ | refine zzr hnt rfl ?_ ?_ | refine zzd hnt rfl ?_ ?_ | refine zzb ?_ | refine zzk ?_
 ·exact zzt
 cases b with
 | true =>
  repeat' first | refine zzs ?_ | refine zzb ?_ | refine zzk ?_
  refine tr_cond rfl (fun hc => ?_) (fun hc => ?_)
  rotate_left
  ·exact absurd (show true = false from hc) Bool.noConfusion
  clear hc
  have h4 := words_fn (ac ++ [⟨3, [], c.ow, 0⟩] ++ [sgT [46]] ++ [⟨1, c.tb, 0, 0⟩]) [68, 82, 65, 87, 69, 82] [[68, 82, 65, 87, 69, 82]] (by simp; omega) hF
  repeat' first | refine zzs ?_ | refine zzb ?_ | refine zzk ?_
  refine tr_region (zzx hnt rfl ?_ (callH (us := []) [(900000, 900000)] [(900001, 900001)] [(900001, 900001)] rfl rfl rfl rfl (h4) (by repeat' first | exact .nil | refine .lent rfl rfl rfl ?_ | refine .data rfl ?_) (fun _ => rfl) rfl rfl hnt rfl rfl zzi zzi (zzx hnt rfl ?_ (Lex.nil _)))) ?_
  ·exact zza
  ·exact zza
  have h5 := wNumber_fn (ac ++ [⟨3, [], c.ow, 0⟩] ++ [sgT [46]] ++ [⟨1, c.tb, 0, 0⟩] ++ [[68, 82, 65, 87, 69, 82]].map wdT) c.dr (by simp; omega)
  repeat' first | refine zzs ?_ | refine zzb ?_ | refine zzk ?_
  refine tr_region (zzx hnt rfl ?_ (callH (us := []) [(900000, 900000)] [(900001, 900001)] [(900001, 900001)] rfl rfl rfl rfl (h5) (by repeat' first | exact .nil | refine .lent rfl rfl rfl ?_ | refine .data rfl ?_) (fun _ => rfl) rfl rfl hnt rfl rfl zzi zzi (zzx hnt rfl ?_ (Lex.nil _)))) ?_
  ·exact zza
  ·exact zza
  exact ⟨.inl rfl, _, _, _, rfl, trivial, rfl, fun X => le_of (ad := []) ⟨trivial, ⟨rfl, rfl, rfl, rfl, rfl⟩, trivial⟩ (memOk_box rfl rfl zzi (memOk_row rfl rfl (by simp [nuT, naT]) trivial))⟩
 | false =>
  repeat' first | refine zzs ?_ | refine zzb ?_ | refine zzk ?_
  refine tr_cond rfl (fun hc => ?_) (fun hc => ?_)
  ·exact absurd (show false = true from hc) Bool.noConfusion
  clear hc
  repeat' first | refine zzs ?_ | refine zzb ?_ | refine zzk ?_
  exact ⟨.inl rfl, _, _, _, rfl, trivial, rfl, fun X => le_of (ad := []) ⟨trivial, ⟨rfl, rfl, rfl, rfl, rfl⟩, trivial⟩ (memOk_box rfl rfl zzi (memOk_row rfl rfl (by simp [nuT, naT]) trivial))⟩
end Go.Proofs.YtjabmeffgbaglaaDoor
