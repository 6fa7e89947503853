/- What is known of an expression ahead of any row: eval.Fold. No condition. -/
import Derived.Test.YthnadkafegmacaaDoorTEvQ
namespace Go.Proofs.YthnadkafegmacaaDoor
open Go Go.RowKit Go.Proofs.YthnadkafegmacaaDoor.Ab
set_option linter.unusedSimpArgs false
set_option linter.unusedVariables false

/-- an expression's cells, none set -/
def exZ : List D0 := [.e (eI 0), .e (eI 0), .e (eI 0), .e (eQ 0), .e (eT []), .e (eT []), .nil]
def litX (v : Val) : Ex := .mk 1 v [] []
def opX (op : Int) (l : List Ex) : Ex := .mk op val0 [] l
/-- an operation's parts folded: what comes of it -/
def joinX (op : Int) (l : List Ex) (r : Val × Int) : Ex := if l.all (fun a => decide (a.op = 1)) = true ∧ r.2 = 0 ∧ 0 ≤ r.1.i then litX r.1 else opX op l
theorem exZ_sim {ad : List Nat} {m m' : Mem} : CsSim ad m m' (.ds exZ) (.ds exZ) := by repeat' first | exact trivial | rfl | apply And.intro
mutual
def fdX : Ex → Ex
  | .mk op v n ar => if ar.length = 0 then .mk op v n ar else joinX op (fdL ar) ((thO [] (.mk op v n ar)).ev [])
def fdL : List Ex → List Ex
  | [] => []
  | a :: r => fdX a :: fdL r
end
theorem fdX_eq (x : Ex) : fdX x = if x.ar.length = 0 then x else joinX x.op (fdL x.ar) ((thO [] x).ev []) := by cases x; rw [fdX]; rfl
theorem fdL_map : ∀ l : List Ex, fdL l = l.map fdX
  | [] => rfl
  | a :: r => by rw [fdL, fdL_map r]; rfl
theorem eEx_lit (v : Val) : eEx (litX v) = [eI 1, eI v.k, eI v.i, eQ v.b, eT v.t, eT [], .sl []] := by unfold litX; rw [eEx, eExs]
theorem eEx_op (op : Int) (l : List Ex) : eEx (opX op l) = [eI op, eI 0, eI 0, eQ 0, eT [], eT [], .sl (eExs l)] := by unfold opX; rw [eEx]; rfl
theorem all_take {p : Ex → Bool} {l : List Ex} {i : Nat} (h : i < l.length) : (l.take (i + 1)).all p = ((l.take i).all p && p (l.getD i ex0)) := by
  rw [take_succ (d := ex0) h, List.all_append]
  simp
set_option maxRecDepth 10000 in
set_option maxHeartbeats 2000000 in
theorem folded_fn (op : Int) (l : List Ex) (ty f : Nat) (vs : List Value) (r : Val × Int) (hl : l.length ≤ 2) (hm : methB Tryd.prog ty "chirograph/eval.of" f = true) (hv : vs.all (·.oneCell') = true) (hfn : FnG Tryd.prog f gK [.agg (.es (vs.map .v)), .one (.e (eRow []))] (rVE r)) : FnG Tryd.prog 78 gK [.one (.e (.v (.iface ty (.agg vs.toArray)))), .agg (.es (eEx (opX op l)))] (.agg (.es (eEx (joinX op l r)))) := by
  refine fn_introG (T := tab) tOk Tryd.func78 rfl (by kernel_rfl) (by simp [Tryd.ntmps78]) ?_
  intro X hX
  have hnt : X.nt = 36 := hX
  clear hX
  have hml := exsLen l
  have hF : joinX op l r = joinX op l r := rfl
  conv at hF => rhs; unfold joinX
  generalize joinX op l r = Z at *
  rw [eEx_op]
  repeat' first | refine zzs ?_ | refine zzr hnt rfl ?_ ?_ | refine zzd hnt rfl ?_ ?_ | refine zzb ?_ | refine zzk ?_
  · exact zzt
  · exact zzt
  repeat' first | refine zzs ?_ | refine zzb ?_ | refine zzk ?_
  refine tr_loop (σ := Nat) (fun i => St.of [(0, .v (.iface ty (.agg vs.toArray))), (3, .one (.ptr 3 0 0)), (4, .one (.ptr 4 0 0)), (10, .one (.e (.sl (eExs l)))), (11, .one (.e (eI ((eExs l).length : Int)))), (12, .one (.e (eI (i : Int)))), ((1000000 + 3), .one (.eptr fsE)), ((1000000 + 4), .one (.eptr acE))] [(3, ⟨0, .box (.es [eI op, eI 0, eI 0, eQ 0, eT [], eT [], .sl (eExs l)]), 0⟩), (4, ⟨0, .box (.ds exZ), 0⟩)]) (fun i => i ≤ l.length ∧ (l.take i).all (fun a => decide (a.op = 1)) = true) (fun i => l.length - i) (0) (le_of (ad := []) ⟨zzl, zzl, zzl, zzl, zzl, zzl, zzl, zzl, trivial⟩ (memOk_box rfl rfl rfl (memOk_box rfl rfl exZ_sim trivial))) ⟨Nat.zero_le _, rfl⟩ ?_
  rintro i ⟨il, hJ⟩
  repeat' first | refine zzs ?_ | refine zzr hnt rfl ?_ ?_ | refine zzd hnt rfl ?_ ?_ | refine zzb ?_ | refine zzk ?_
  · exact zzt
  repeat' first | refine zzs ?_ | refine zzb ?_ | refine zzk ?_
  refine tr_cond rfl (fun hc => ?_) (fun hc => ?_)
  · simp only [zz1, zz2, zz3, zz4, zz5, zz6, zz7, zz8] at hc
    (try simp only [hml] at hc)
    (try simp only [zz1, zz2, zz3, zz4, zz5, zz6, zz7, zz8] at hc)
    have hlt : i < l.length := by omega
    have hg := (exsGet l i hlt).trans (eEx_eq _)
    have hat := all_take (p := fun a => decide (a.op = 1)) hlt
    have hall : l.all (fun a => decide (a.op = 1)) = true → (l.getD i ex0).op = 1 := fun h => of_decide_eq_true (List.all_eq_true.1 h _ (getD_mem hlt))
    repeat' first | refine zzs ?_ | refine zzb ?_ | refine zzk ?_
    first | refine zzr hnt rfl ?_ ?_ | refine zzd hnt rfl ?_ ?_
    · rw [Int.toNat_natCast, hg, hml]
      exact zza
    rw [Int.toNat_natCast, hg]
    generalize l.getD i ex0 = a at *
    refine tr_le (s' := St.of [(0, .v (.iface ty (.agg vs.toArray))), (3, .one (.ptr 3 0 0)), (4, .one (.ptr 4 0 0)), (6, .one (.ptr 6 0 0)), (10, .one (.e (.sl (eExs l)))), (11, .one (.e (eI ((eExs l).length : Int)))), (12, .one (.e (eI (i : Int)))), ((1000000 + 3), .one (.eptr fsE)), ((1000000 + 4), .one (.eptr acE))] [(3, ⟨0, .box (.es [eI op, eI 0, eI 0, eQ 0, eT [], eT [], .sl (eExs l)]), 0⟩), (4, ⟨0, .box (.ds exZ), 0⟩), (6, ⟨0, .box (.es [eI a.op, eI a.v.k, eI a.v.i, eQ a.v.b, eT a.v.t, eT a.n, .sl (eExs a.ar)]), 0⟩)]) (le_of (ad := []) ⟨zzl, zzl, zzl, zzl, zzl, zzl, zzl, zzl, zzl, trivial⟩ (memOk_box rfl rfl rfl (memOk_box rfl rfl exZ_sim (memOk_box rfl rfl rfl trivial)))) ?_
    repeat' first | refine zzs ?_ | refine zzb ?_ | refine zzk ?_
    first | refine zzr hnt rfl ?_ ?_ | refine zzd hnt rfl ?_ ?_
    · exact zzt
    repeat' first | refine zzs ?_ | refine zzb ?_ | refine zzk ?_
    refine tr_cond rfl (fun hc => ?_) (fun hc => ?_)
    · simp only [zz1, zz2, zz3, zz4, zz5, zz6, zz7, zz8] at hc
      have hc : ¬ a.op = 1 := hc
      rw [if_neg (fun h => hc (hall h.1))] at hF
      subst hF
      rw [eEx_op]
      repeat' first | refine zzs ?_ | refine zzr hnt rfl ?_ ?_ | refine zzd hnt rfl ?_ ?_ | refine zzb ?_ | refine zzk ?_
      · exact zzt
      exact tr_ret ⟨.inr rfl, _, _, rfl, zzp, rfl⟩
    simp only [zz1, zz2, zz3, zz4, zz5, zz6, zz7, zz8] at hc
    have hc : a.op = 1 := hc
    repeat' first | refine zzs ?_ | refine zzr hnt rfl ?_ ?_ | refine zzd hnt rfl ?_ ?_ | refine zzb ?_ | refine zzk ?_
    · exact zzt
    refine ⟨i + 1, ⟨hlt, by rw [hat, hJ, hc]; rfl⟩, by omega, le_of (ad := []) ⟨zzl, zzl, zzl, zzl, zzl, zzl, zzl, zzl, trivial⟩ (memOk_box rfl rfl rfl (memOk_box rfl rfl exZ_sim trivial))⟩
  simp only [zz1, zz2, zz3, zz4, zz5, zz6, zz7, zz8] at hc
  (try simp only [hml] at hc)
  (try simp only [zz1, zz2, zz3, zz4, zz5, zz6, zz7, zz8] at hc)
  have hi : i = l.length := by omega
  subst hi
  rw [List.take_length] at hJ
  refine tr_exit ?_
  obtain ⟨v, e⟩ := r
  dsimp only at hF
  rw [hJ] at hF
  repeat' first | refine zzs ?_ | refine zzb ?_ | refine zzk ?_
  refine tr_region (zzx hnt rfl ?_ (callI rfl rfl rfl rfl rfl rfl rfl hnt rfl hm hv hfn (zzx hnt rfl ?_ (Lex.nil _)))) ?_
  · exact zzt
  · exact zzt
  repeat' first | refine zzs ?_ | refine zzr hnt rfl ?_ ?_ | refine zzd hnt rfl ?_ ?_ | refine zzb ?_ | refine zzk ?_
  · exact zzt
  have hB : (bif !decide (e = 0) then true else decide (((eVal v).getD (0 + 1) E.dflt).int < 0)) = decide (¬ (e = 0 ∧ 0 ≤ v.i)) := by
    rw [eVal1]
    by_cases h1 : e = 0 <;> by_cases h2 : v.i < 0 <;> simp [h1, h2] <;> omega
  repeat' first | refine zzs ?_ | refine zzb ?_ | refine zzk ?_
  refine tr_cond rfl (fun hc => ?_) (fun hc => ?_)
  · have hc := of_decide_eq_true (hB.symm.trans hc)
    rw [if_neg (fun h => hc h.2)] at hF
    subst hF
    rw [eEx_op]
    repeat' first | refine zzs ?_ | refine zzr hnt rfl ?_ ?_ | refine zzd hnt rfl ?_ ?_ | refine zzb ?_ | refine zzk ?_
    · exact zzt
    exact tr_ret ⟨.inr rfl, _, _, rfl, zzp, rfl⟩
  have hc := of_decide_eq_false (hB.symm.trans hc)
  have hc := Classical.not_not.1 hc
  rw [if_pos ⟨rfl, hc⟩] at hF
  subst hF
  rw [eEx_lit]
  repeat' first | refine zzs ?_ | refine zzr hnt rfl ?_ ?_ | refine zzd hnt rfl ?_ ?_ | refine zzb ?_ | refine zzk ?_
  · exact zzt
  exact tr_ret ⟨.inr rfl, _, _, rfl, zzp, rfl⟩
/-- a thing that an expression may have ahead of any row, and that expression's sort -/
def thX : Ex → Th := thO []
set_option maxRecDepth 10000 in
set_option maxHeartbeats 2000000 in
theorem exprOf_fix (v : Val) (x : Ex) : FnG Tryd.prog 36 gK [.one (.e (.v (Th.fix v).val)), .agg (.es (eEx x))] (.agg (.es (eEx (litX v)))) := by
  refine fn_introG (T := tab) tOk Tryd.func36 rfl (by kernel_rfl) (by simp [Tryd.ntmps36]) ?_
  intro X hX
  have hnt : X.nt = 59 := hX
  clear hX
  rw [eEx_eq, eEx_lit]
  repeat' first | refine zzs ?_ | refine zzb ?_ | refine zzk ?_
  first | refine zzr hnt rfl ?_ ?_ | refine zzd hnt rfl ?_ ?_
  · exact zzt
  repeat' first | refine zzs ?_ | refine zzb ?_ | refine zzk ?_
  first | refine zzr hnt rfl ?_ ?_ | refine zzd hnt rfl ?_ ?_
  · exact zzt
  repeat' first | refine zzs ?_ | refine zzb ?_ | refine zzk ?_
  first | refine zzr hnt rfl ?_ ?_ | refine zzd hnt rfl ?_ ?_
  · exact zzt
  repeat' first | refine zzs ?_ | refine zzb ?_ | refine zzk ?_
  refine tr_cond rfl (fun hc => ?_) (fun hc => ?_)
  rotate_left
  · exact absurd (show true = false from hc) Bool.noConfusion
  repeat' first | refine zzs ?_ | refine zzr hnt rfl ?_ ?_ | refine zzd hnt rfl ?_ ?_ | refine zzb ?_ | refine zzk ?_
  · exact zzt
  · exact zzt
  exact tr_ret ⟨.inr rfl, _, _, rfl, zzp, rfl⟩
set_option maxRecDepth 10000 in
set_option maxHeartbeats 2000000 in
theorem exprOf_mis (x : Ex) : FnG Tryd.prog 36 gK [.one (.e (.v Th.mis.val)), .agg (.es (eEx x))] (.agg (.es (eEx (.mk 2 val0 x.n [])))) := by
  refine fn_introG (T := tab) tOk Tryd.func36 rfl (by kernel_rfl) (by simp [Tryd.ntmps36]) ?_
  intro X hX
  have hnt : X.nt = 59 := hX
  clear hX
  rw [eEx_eq, eEx_leaf]
  repeat' first | refine zzs ?_ | refine zzb ?_ | refine zzk ?_
  first | refine zzr hnt rfl ?_ ?_ | refine zzd hnt rfl ?_ ?_
  · exact zzt
  repeat' first | refine zzs ?_ | refine zzb ?_ | refine zzk ?_
  first | refine zzr hnt rfl ?_ ?_ | refine zzd hnt rfl ?_ ?_
  · exact zzt
  repeat' first | refine zzs ?_ | refine zzb ?_ | refine zzk ?_
  first | refine zzr hnt rfl ?_ ?_ | refine zzd hnt rfl ?_ ?_
  · exact zzt
  repeat' first | refine zzs ?_ | refine zzb ?_ | refine zzk ?_
  refine tr_cond rfl (fun hc => ?_) (fun hc => ?_)
  · exact absurd (show false = true from hc) Bool.noConfusion
  repeat' first | refine zzs ?_ | refine zzb ?_ | refine zzk ?_
  first | refine zzr hnt rfl ?_ ?_ | refine zzd hnt rfl ?_ ?_
  · exact zzt
  repeat' first | refine zzs ?_ | refine zzb ?_ | refine zzk ?_
  refine tr_cond rfl (fun hc => ?_) (fun hc => ?_)
  · exact absurd (show false = true from hc) Bool.noConfusion
  repeat' first | refine zzs ?_ | refine zzb ?_ | refine zzk ?_
  first | refine zzr hnt rfl ?_ ?_ | refine zzd hnt rfl ?_ ?_
  · exact zzt
  repeat' first | refine zzs ?_ | refine zzb ?_ | refine zzk ?_
  refine tr_cond rfl (fun hc => ?_) (fun hc => ?_)
  · exact absurd (show false = true from hc) Bool.noConfusion
  repeat' first | refine zzs ?_ | refine zzr hnt rfl ?_ ?_ | refine zzd hnt rfl ?_ ?_ | refine zzb ?_ | refine zzk ?_
  · exact zzt
  exact tr_ret ⟨.inr rfl, _, _, rfl, zzp, rfl⟩
set_option maxRecDepth 10000 in
set_option maxHeartbeats 2000000 in
theorem exprOf_sol (op : Int) (ty : Nat) (vs : List Value) (v : Val) (n : Byt) (a b z : Ex) (hv : vs.all (·.oneCell') = true) (hb : FnG Tryd.prog 36 gK [.v (.iface ty (.agg vs.toArray)), .agg (.es (eEx a))] (.agg (.es (eEx b)))) (hfo : FnG Tryd.prog 78 gK [.v (.iface tySol (.agg [.int .i64 op, .iface ty (.agg vs.toArray)].toArray)), .agg (.es (eEx (opX op [b])))] (.agg (.es (eEx z)))) : FnG Tryd.prog 36 gK [.one (.e (.v (.iface tySol (.agg [.int .i64 op, .iface ty (.agg vs.toArray)].toArray)))), .agg (.es (eEx (.mk op v n [a])))] (.agg (.es (eEx z))) := by
  refine fn_introG (T := tab) tOk Tryd.func36 rfl (by kernel_rfl) (by simp [Tryd.ntmps36]) ?_
  intro X hX
  have hnt : X.nt = 59 := hX
  clear hX
  have h7 : 0 + 7 ≤ (Cs.es (eEx a)).len := by have := ex7 a; show 0 + 7 ≤ (eEx a).length; omega
  have g1 : (0 : Int) < ((1 : Nat) : Int) := by decide
  have k7 := ex7 a
  have b7 : (eEx b).length = 7 := ex7 _
  rw [eEx_one]
  rw [eEx_eq z] at hfo ⊢
  rw [← exAll a] at hb
  rw [eEx_op, show eExs [b] = [eEx b] from by rw [eExs, eExs]] at hfo
  repeat' first | refine zzs ?_ | refine zzb ?_ | refine zzk ?_
  first | refine zzr hnt rfl ?_ ?_ | refine zzd hnt rfl ?_ ?_
  · exact zzt
  repeat' first | refine zzs ?_ | refine zzb ?_ | refine zzk ?_
  first | refine zzr hnt rfl ?_ ?_ | refine zzd hnt rfl ?_ ?_
  · exact zzt
  repeat' first | refine zzs ?_ | refine zzb ?_ | refine zzk ?_
  first | refine zzr hnt rfl ?_ ?_ | refine zzd hnt rfl ?_ ?_
  · exact zzt
  repeat' first | refine zzs ?_ | refine zzb ?_ | refine zzk ?_
  refine tr_cond rfl (fun hc => ?_) (fun hc => ?_)
  · exact absurd (show false = true from hc) Bool.noConfusion
  repeat' first | refine zzs ?_ | refine zzb ?_ | refine zzk ?_
  first | refine zzr hnt rfl ?_ ?_ | refine zzd hnt rfl ?_ ?_
  · exact zzt
  repeat' first | refine zzs ?_ | refine zzb ?_ | refine zzk ?_
  refine tr_cond rfl (fun hc => ?_) (fun hc => ?_)
  rotate_left
  · exact absurd (show true = false from hc) Bool.noConfusion
  repeat' first | refine zzs ?_ | refine zzb ?_ | refine zzk ?_
  first | refine zzr hnt rfl ?_ ?_ | refine zzd hnt rfl ?_ ?_
  · exact zza
  refine tr_le (s' := St.of [(3, .one (.ptr 3 0 0)), (4, .one (.ptr 4 0 0)), (6, .one (.ptr 6 0 0)), ((1000000 + 3), .one (.eptr fsE)), ((1000000 + 4), .one (.eptr acE))] [(3, ⟨0, .box (.es [eI op, eI v.k, eI v.i, eQ v.b, eT v.t, eT n, .sl [eEx a]]), 0⟩), (4, ⟨0, .box (.ds exZ), 0⟩), (6, ⟨0, .box (.es [eI op, .v (.iface ty (.agg vs.toArray))]), 0⟩)]) (le_of (ad := []) ⟨zzl, zzl, zzl, zzl, zzl, trivial⟩ (memOk_box rfl rfl rfl (memOk_box rfl rfl exZ_sim (memOk_box rfl rfl rfl trivial)))) ?_
  repeat' first | refine zzs ?_ | refine zzb ?_ | refine zzk ?_
  refine tr_draw (T := tab) tOk hnt mixedR (lexD (T := tab) rfl ?_ (callVD rfl rfl rfl rfl rfl rfl rfl rfl rfl (hb) (lexD (T := tab) rfl ?_ (callVDU rfl rfl rfl rfl rfl rfl rfl rfl rfl rfl (hfo) (lexD (T := tab) rfl ?_ (.nil _)))))) (by first | decide +kernel | kernel_rfl) ?_
  · exact zza
  · exact zza
  · exact zza
  exact tr_ret ⟨.inr rfl, _, _, rfl, zzp, rfl⟩
set_option maxRecDepth 10000 in
set_option maxHeartbeats 2000000 in
theorem exprOf_twn (op : Int) (ty : Nat) (vs : List Value) (ty2 : Nat) (us : List Value) (v : Val) (n : Byt) (a a2 b b2 z : Ex) (hv : vs.all (·.oneCell') = true) (hv2 : us.all (·.oneCell') = true) (hb : FnG Tryd.prog 36 gK [.v (.iface ty (.agg vs.toArray)), .agg (.es (eEx a))] (.agg (.es (eEx b)))) (hb2 : FnG Tryd.prog 36 gK [.v (.iface ty2 (.agg us.toArray)), .agg (.es (eEx a2))] (.agg (.es (eEx b2)))) (hfo : FnG Tryd.prog 78 gK [.v (.iface tyTwn (.agg [.int .i64 op, .iface ty (.agg vs.toArray), .iface ty2 (.agg us.toArray)].toArray)), .agg (.es (eEx (opX op [b, b2])))] (.agg (.es (eEx z)))) : FnG Tryd.prog 36 gK [.one (.e (.v (.iface tyTwn (.agg [.int .i64 op, .iface ty (.agg vs.toArray), .iface ty2 (.agg us.toArray)].toArray)))), .agg (.es (eEx (.mk op v n [a, a2])))] (.agg (.es (eEx z))) := by
  refine fn_introG (T := tab) tOk Tryd.func36 rfl (by kernel_rfl) (by simp [Tryd.ntmps36]) ?_
  intro X hX
  have hnt : X.nt = 59 := hX
  clear hX
  have h7 : 0 + 7 ≤ (Cs.es (eEx a)).len := by have := ex7 a; show 0 + 7 ≤ (eEx a).length; omega
  have h72 : 0 + 7 ≤ (Cs.es (eEx a2)).len := by have := ex7 a2; show 0 + 7 ≤ (eEx a2).length; omega
  have g1 : (0 : Int) < ((2 : Nat) : Int) := by decide
  have g2 : (1 : Int) < ((2 : Nat) : Int) := by decide
  have k7 := ex7 a
  have k72 := ex7 a2
  have b7 : (eEx b).length = 7 := ex7 _
  have b72 : (eEx b2).length = 7 := ex7 _
  rw [eEx_two]
  rw [eEx_eq z] at hfo ⊢
  rw [← exAll a] at hb
  rw [← exAll a2] at hb2
  rw [eEx_op, show eExs [b, b2] = [eEx b, eEx b2] from by rw [eExs, eExs, eExs]] at hfo
  repeat' first | refine zzs ?_ | refine zzb ?_ | refine zzk ?_
  first | refine zzr hnt rfl ?_ ?_ | refine zzd hnt rfl ?_ ?_
  · exact zzt
  repeat' first | refine zzs ?_ | refine zzb ?_ | refine zzk ?_
  first | refine zzr hnt rfl ?_ ?_ | refine zzd hnt rfl ?_ ?_
  · exact zzt
  repeat' first | refine zzs ?_ | refine zzb ?_ | refine zzk ?_
  first | refine zzr hnt rfl ?_ ?_ | refine zzd hnt rfl ?_ ?_
  · exact zzt
  repeat' first | refine zzs ?_ | refine zzb ?_ | refine zzk ?_
  refine tr_cond rfl (fun hc => ?_) (fun hc => ?_)
  · exact absurd (show false = true from hc) Bool.noConfusion
  repeat' first | refine zzs ?_ | refine zzb ?_ | refine zzk ?_
  first | refine zzr hnt rfl ?_ ?_ | refine zzd hnt rfl ?_ ?_
  · exact zzt
  repeat' first | refine zzs ?_ | refine zzb ?_ | refine zzk ?_
  refine tr_cond rfl (fun hc => ?_) (fun hc => ?_)
  · exact absurd (show false = true from hc) Bool.noConfusion
  repeat' first | refine zzs ?_ | refine zzb ?_ | refine zzk ?_
  first | refine zzr hnt rfl ?_ ?_ | refine zzd hnt rfl ?_ ?_
  · exact zzt
  repeat' first | refine zzs ?_ | refine zzb ?_ | refine zzk ?_
  refine tr_cond rfl (fun hc => ?_) (fun hc => ?_)
  rotate_left
  · exact absurd (show true = false from hc) Bool.noConfusion
  repeat' first | refine zzs ?_ | refine zzb ?_ | refine zzk ?_
  first | refine zzr hnt rfl ?_ ?_ | refine zzd hnt rfl ?_ ?_
  · exact zza
  refine tr_le (s' := St.of [(3, .one (.ptr 3 0 0)), (4, .one (.ptr 4 0 0)), (7, .one (.ptr 7 0 0)), ((1000000 + 3), .one (.eptr fsE)), ((1000000 + 4), .one (.eptr acE))] [(3, ⟨0, .box (.es [eI op, eI v.k, eI v.i, eQ v.b, eT v.t, eT n, .sl [eEx a, eEx a2]]), 0⟩), (4, ⟨0, .box (.ds exZ), 0⟩), (7, ⟨0, .box (.es [eI op, .v (.iface ty (.agg vs.toArray)), .v (.iface ty2 (.agg us.toArray))]), 0⟩)]) (le_of (ad := []) ⟨zzl, zzl, zzl, zzl, zzl, trivial⟩ (memOk_box rfl rfl rfl (memOk_box rfl rfl exZ_sim (memOk_box rfl rfl rfl trivial)))) ?_
  repeat' first | refine zzs ?_ | refine zzb ?_ | refine zzk ?_
  refine tr_draw (T := tab) tOk hnt mixedR (lexD (T := tab) rfl ?_ (callVD rfl rfl rfl rfl rfl rfl rfl rfl rfl (hb) (lexD (T := tab) rfl ?_ (callVD rfl rfl rfl rfl rfl rfl rfl rfl rfl (hb2) (lexD (T := tab) rfl ?_ (callVDU rfl rfl rfl rfl rfl rfl rfl rfl rfl rfl (hfo) (lexD (T := tab) rfl ?_ (.nil _)))))))) (by first | decide +kernel | kernel_rfl) ?_
  · exact zza
  · exact zza
  · exact zza
  · exact zza
  exact tr_ret ⟨.inr rfl, _, _, rfl, zzp, rfl⟩
/-- an expression's thing, and the expression folded -/
theorem exprOf_all : ∀ (m : Nat) (x : Ex), nodes x ≤ m → exOk x → ndF x = 0 → FnG Tryd.prog 36 gK [.v (thO [] x).val, .agg (.es (eEx x))] (.agg (.es (eEx (fdX x))))
  | 0, x, h, _, _ => absurd h (by have := nodes_pos x; omega)
  | m + 1, .mk op v n ar, h, ho, hn => by
    have hok := th_ok [] [] rfl (fun v hv => nomatch hv) (m + 1) (.mk op v n ar) h ho hn
    have hof := th_of (thO [] (.mk op v n ar)) hok
    have hme := (thO [] (.mk op v n ar)).meth
    have hon := (thO [] (.mk op v n ar)).vs_one
    obtain ⟨n1, n2⟩ := nd_zero hn
    obtain ⟨k1, k2, k3, k4, k5, k6, k7⟩ := node_ok n1
    obtain ⟨w1, w2, w3⟩ := want_cases k1 k2
    have hL := exOk_kids ho
    change 1 ≤ op at k1
    change op ≤ 20 at k2
    change (ar.length : Int) = wantF op at k3
    change op = 2 ↔ n.length ≠ 0 at k4
    change op = 1 ∨ zv v at k5
    change wantF op = 0 ↔ op = 1 ∨ op = 2 at w1
    rcases ar with _ | ⟨a, _ | ⟨b, _ | ⟨c, r⟩⟩⟩
    · have hfd : fdX (.mk op v n []) = .mk op v n [] := by rw [fdX]; rfl
      rw [hfd]
      rcases w1.1 k3.symm with rfl | rfl
      · have hn0 : n = [] := List.eq_nil_of_length_eq_zero (Classical.not_not.1 fun e => absurd (k4.2 e) (by decide))
        subst hn0
        exact exprOf_fix v _
      · have hz : v = val0 := by
          rcases k5 with h | h
          · exact absurd h (by decide)
          · exact Val.ext' h.1 h.2.1 (BitVec.eq_of_toNat_eq h.2.2.1) (List.eq_nil_of_length_eq_zero h.2.2.2)
        subst hz
        exact exprOf_mis (.mk 2 val0 n [])
    · have ih := exprOf_all m a (kid_nodes h (by show a ∈ [a]; simp)) (hL.2 a (by show a ∈ [a]; simp)) (n2 a (by show a ∈ [a]; simp))
      have hfd : fdX (.mk op v n [a]) = joinX op [fdX a] ((thO [] (.mk op v n [a])).ev []) := by rw [fdX, fdL, fdL]; rfl
      rw [hfd]
      have ht : thO [] (.mk op v n [a]) = .sol op (thO [] a) := by rw [thO_eq]; rfl
      have hfo := folded_fn op [fdX a] (thO [] (.mk op v n [a])).ty (thO [] (.mk op v n [a])).fn (thO [] (.mk op v n [a])).vs _ (by simp) hme hon hof
      rw [ht] at hfo ⊢
      show FnG Tryd.prog 36 gK [.v (.iface tySol (.agg [.int .i64 op, (thO [] a).val].toArray)), _] _
      have hfo : FnG Tryd.prog 78 gK [.v (.iface tySol (.agg [.int .i64 op, (thO [] a).val].toArray)), .agg (.es (eEx (opX op [fdX a])))] _ := hfo
      rw [Th.val_eq] at hfo ih ⊢
      exact exprOf_sol op _ _ v n a (fdX a) _ (thO [] a).vs_one ih hfo
    · have ih := exprOf_all m a (kid_nodes h (by show a ∈ [a, b]; simp)) (hL.2 a (by show a ∈ [a, b]; simp)) (n2 a (by show a ∈ [a, b]; simp))
      have ih2 := exprOf_all m b (kid_nodes h (by show b ∈ [a, b]; simp)) (hL.2 b (by show b ∈ [a, b]; simp)) (n2 b (by show b ∈ [a, b]; simp))
      have hfd : fdX (.mk op v n [a, b]) = joinX op [fdX a, fdX b] ((thO [] (.mk op v n [a, b])).ev []) := by rw [fdX, fdL, fdL, fdL]; rfl
      rw [hfd]
      have ht : thO [] (.mk op v n [a, b]) = .twn op (thO [] a) (thO [] b) := by rw [thO_eq]; rfl
      have hfo := folded_fn op [fdX a, fdX b] (thO [] (.mk op v n [a, b])).ty (thO [] (.mk op v n [a, b])).fn (thO [] (.mk op v n [a, b])).vs _ (by simp) hme hon hof
      rw [ht] at hfo ⊢
      show FnG Tryd.prog 36 gK [.v (.iface tyTwn (.agg [.int .i64 op, (thO [] a).val, (thO [] b).val].toArray)), _] _
      have hfo : FnG Tryd.prog 78 gK [.v (.iface tyTwn (.agg [.int .i64 op, (thO [] a).val, (thO [] b).val].toArray)), .agg (.es (eEx (opX op [fdX a, fdX b])))] _ := hfo
      rw [Th.val_eq (thO [] a), Th.val_eq (thO [] b)] at hfo
      rw [Th.val_eq] at ih ih2
      rw [Th.val_eq (thO [] a), Th.val_eq (thO [] b)]
      exact exprOf_twn op _ _ _ _ v n a b (fdX a) (fdX b) _ (thO [] a).vs_one (thO [] b).vs_one ih ih2 hfo
    · have : wantF op ≤ 2 := by unfold wantF; split; decide; split <;> decide
      simp only [List.length_cons] at k3
      omega
end Go.Proofs.YthnadkafegmacaaDoor
