/- Functions that read variables of the package: what is asked of them; calls of them. No condition. -/
import Derived.Test.YtcdifgacoleckaaDoorAbC
import Derived.Still
namespace Go.Proofs.YtcdifgacoleckaaDoor.Ab
open Go Go.RowKit

/-- function f, given data, and given what some variables of the package hold, answers data, and leaves all that was there alone -/
def FnG (P : Program) (f : Nat) (gs : List (Nat × List E)) (args : List D) (r : D) : Prop :=
  FnOk P f ∧ ∀ (w : World) (vs : Array Value) (I : Nat → Nat → Prop), (∀ x ∈ gs, RepD p0 (CI w I) w (.one (.eptr x.2)) (.pointer (some ⟨x.1, 0, none⟩))) → RepAs (CI w I) w args vs.toList →
    Calls P f vs w fun e w' => ∃ v, e = .returned v ∧ Below w.heap.size w w' ∧ RepD p0 (CI' w w' I) w' r v
/-- the same where a fact of the world is given as well -/
def FnK (P : Program) (K : World → Prop) (f : Nat) (gs : List (Nat × List E)) (args : List D) (r : D) : Prop :=
  FnOk P f ∧ ∀ (w : World) (vs : Array Value) (I : Nat → Nat → Prop), K w → (∀ x ∈ gs, RepD p0 (CI w I) w (.one (.eptr x.2)) (.pointer (some ⟨x.1, 0, none⟩))) → RepAs (CI w I) w args vs.toList →
    Calls P f vs w fun e w' => ∃ v, e = .returned v ∧ Below w.heap.size w w' ∧ RepD p0 (CI' w w' I) w' r v
theorem FnG.toK {P : Program} {K : World → Prop} {f : Nat} {gs : List (Nat × List E)} {args : List D} {r : D} (h : FnG P f gs args r) : FnK P K f gs args r :=
  ⟨h.1, fun w vs I _ hg ha => h.2 w vs I hg ha⟩
theorem FnD.toG {P : Program} {f : Nat} {gs : List (Nat × List E)} {args : List D} {r : D} (h : FnD P f args r) : FnG P f gs args r :=
  ⟨h.1, fun w vs I _ ha => h.2 w vs I ha⟩

theorem eptr_mono {p p' : Rho} {C C' : Nat → Nat → Value → Prop} {w w' : World} {es : List E} {v : Value} (h : ∀ b o u, C b o u → C' b o u) (hr : RepD p C w (.one (.eptr es)) v) : RepD p' C' w' (.one (.eptr es)) v := by
  obtain ⟨b, o, rfl, hx⟩ := hr
  refine ⟨b, o, rfl, fun j e he => ?_⟩
  obtain ⟨u, h1, h2⟩ := hx j e he
  exact ⟨u, h _ _ _ h1, h2.mono h⟩

section
variable {P : Program} {T : Nat → Option TI} {X : Ctx}
theorem opT_callK {K : World → Prop} (hK : ∀ w, Bel X w → K w) {gs : List (Nat × List E)} {ops : Array Oper} {s : St} {o : Oper} {fo : Operand} {f : Nat} {args : Array Operand} {ts : Array TypeId} (hop : o.op = .call ⟨.value fo, args, ts⟩) (hgd : gdOf ops s o = .free) (hfo : (s.ev fo).strip = .one (.clo f [])) {as : List D} {us : Upds} {r : D}
    (has : dataL s.mem (args.toList.map fun x => (s.ev x).strip) = some (as, us)) (hn : ∀ p ∈ needL s (fo :: args.toList), p) (hgl : ∀ x ∈ gs, s.tm (1000000 + x.1) = .one (.eptr x.2)) (hfn : FnK P K f gs as r) (hd : dstOk X.nt o.dst = true) : OpT P X ops o s (s.app o.dst r us) := by
  intro Q a w ⟨μ, hM, hsz, hdf, hr⟩
  rw [if_pos (gd_free hgd a)]
  obtain ⟨⟨fn, c, k1, k2, k34⟩, hfn⟩ := hfn
  obtain ⟨k3, k4⟩ := Bool.or_eq_false_iff.1 k34
  obtain ⟨r1, r2, r3, r4⟩ := RM.pubs us s.mem hM (dataL_ok has)
  have hrep := dataL_rep (vs := (args.map a.eval).toList) r1 ⟨by simp, fun i d v hd hv => by
    simp only [List.getElem?_map, Array.toList_map, Option.map_eq_some_iff] at hd hv
    obtain ⟨x, hx, rfl⟩ := hd
    obtain ⟨y, hy, rfl⟩ := hv
    rw [hx] at hy
    cases hy
    exact (strip_rep (ev_rep hr x) (needs_all hn x (List.mem_cons_of_mem _ (List.mem_of_getElem? hx)))).kept r2⟩ has r3
  have hf := strip_rep (ev_rep hr fo) (needs_all hn fo (List.mem_cons_self ..))
  rw [hfo] at hf
  obtain ⟨vs0, hfv, hl0, _⟩ := hf
  rw [cloV_lt k4] at hfv
  have hvs0 : vs0 = [] := List.eq_nil_of_length_eq_zero (by simpa using hl0.symm)
  subst hvs0
  have hcall : (execOp a.eval o).run P w = .ok (.enter f (args.map a.eval)) w := by
    have hb : fn.body.isNone = false := by rw [k2]; rfl
    have hne : ¬ (fn.name = "runtime.NumGoroutine") := by simpa using k3
    simp [execOp, hop, resolve, hfv, Deferred.ofValue, invoke, callFunc, k1, hne, k2]
  unfold Oper.wp
  rw [hcall, Oper.upon_enter]
  let I : Nat → Nat → Prop := fun b o => (¬ X.own b → X.I b o) ∧ (X.own b → ∀ id blk, appU s.mem us id = some blk → μ id = some b → o < blk.pub)
  refine (hfn w (args.map a.eval) I (hK w r1.bel) (fun x hx => by
    have h1 := hr (1000000 + x.1)
    rw [hgl x hx, slotV_glob] at h1
    exact eptr_mono (fun b o u h => ⟨h.1, h.2⟩) (h1.kept r2)) ⟨hrep.1, fun i d v hd hv => (hrep.2 i d v hd hv).kept (p0_kept fun b o u h => ⟨h.1, h.2⟩)⟩).mono ?_
  rintro e w' ⟨v, rfl, hbel, hv⟩
  obtain ⟨q1, q2⟩ := r1.call hbel
  have hv' : RepD ⟨appU s.mem us, μ⟩ (CW X ⟨appU s.mem us, μ⟩ w') w' r v := hv.kept (p0_kept fun b o u h => by
    obtain ⟨h1, h2⟩ := h
    rcases h2 with ⟨h2, h3⟩ | h2
    · exact ⟨h1, h2, h3⟩
    · refine ⟨h1, fun hno => absurd (.inl (Nat.le_trans r1.bel.size h2)) hno, fun _ id blk m1 m2 => ?_⟩
      have m2 : μ id = some b := m2
      have := r1.blk id blk m1
      simp only [BlkOk, m2] at this
      obtain ⟨_, _, _, _, cur, e, lo, hi, g4, _⟩ := this
      exact absurd (Nat.lt_of_lt_of_le (Array.getElem?_eq_some_iff.1 g4).1 h2) (Nat.lt_irrefl _))
  exact ⟨μ, q1, by cases o.dst <;> simp [Act.put, hsz], by cases o.dst <;> exact hdf, put_rep (us := us) hr (r2.trans q2) hv' hsz hd⟩
theorem opT_callV {gs : List (Nat × List E)} {ops : Array Oper} {s : St} {o : Oper} {fo : Operand} {f : Nat} {args : Array Operand} {ts : Array TypeId} (hop : o.op = .call ⟨.value fo, args, ts⟩) (hgd : gdOf ops s o = .free) (hfo : (s.ev fo).strip = .one (.clo f [])) {as : List D} {us : Upds} {r : D}
    (has : dataL s.mem (args.toList.map fun x => (s.ev x).strip) = some (as, us)) (hn : ∀ p ∈ needL s (fo :: args.toList), p) (hgl : ∀ x ∈ gs, s.tm (1000000 + x.1) = .one (.eptr x.2)) (hfn : FnG P f gs as r) (hd : dstOk X.nt o.dst = true) : OpT P X ops o s (s.app o.dst r us) :=
  opT_callK (K := fun _ => True) (fun _ _ => trivial) hop hgd hfo has hn hgl hfn.toK hd
theorem opT_callVG {gs : List (Nat × List E)} {ops : Array Oper} {s : St} {o : Oper} {fo : Operand} {f : Nat} {args : Array Operand} {ts : Array TypeId} {q : Prop} (hop : o.op = .call ⟨.value fo, args, ts⟩) (hgd : gdOf ops s o = .iff q) (hfo : (s.ev fo).strip = .one (.clo f [])) {as : List D} {r : D}
    (has : dataL s.mem (args.toList.map fun x => (s.ev x).strip) = some (as, [])) (hn : q → ∀ p ∈ needL s (fo :: args.toList), p) (hgl : ∀ x ∈ gs, s.tm (1000000 + x.1) = .one (.eptr x.2)) (hfn : q → FnG P f gs as r) (hd : dstOk X.nt o.dst = true) : OpT P X ops o s (s.app o.dst (.gd q r) []) := by
  intro Q a w hR0
  have hR0' := hR0
  obtain ⟨μ, hM, hsz, hdf, hr⟩ := hR0
  have hiff := gd_iff hgd hr
  by_cases hq : q
  · rw [if_pos (hiff.2 hq)]
    have := opT_callV (ops := ops) (o := { o with guard := none }) (us := []) hop (by unfold gdOf; rfl) hfo has (hn hq) hgl (hfn hq) hd Q a w hR0'
    rw [if_pos (by simp [Region.wanted])] at this
    have hm : ∀ a' w', R X (s.app o.dst r []) a' w' → R X (s.app o.dst (.gd q r) []) a' w' := by
      rintro a' w' ⟨μ', hM', hsz', hdf', hr'⟩
      refine ⟨μ', hM', hsz', hdf', fun t => ?_⟩
      have := hr' t
      cases hdst : o.dst with
      | none => rw [hdst] at this; exact this
      | some t' =>
        rw [hdst] at this
        by_cases ht : t = t'
        · subst ht
          simp only [St.app, upd_same] at this ⊢
          exact ⟨fun _ => this, fun hn => absurd hq hn⟩
        · simp only [St.app, upd_ne _ _ ht] at this ⊢
          exact this
    exact Oper.wp_mono (P := P) (Q := Q) hm this
  · rw [if_neg (fun hw => hq (hiff.1 hw))]
    exact ⟨μ, hM, by cases o.dst <;> simp [Act.put, hsz], by cases o.dst <;> exact hdf, put_rep (d := .gd q r) (v := undef) hr Kept.rfl' ⟨fun h => absurd h hq, fun _ => rfl⟩ hsz hd []⟩
end

def getG : List (Nat × List E) → Nat → D
  | [], _ => .any
  | (g, es) :: r, n => bif Nat.beq g n then .one (.eptr es) else getG r n
def St.startG (gs : List (Nat × List E)) (args : List D) : St := ⟨fun t => bif Nat.ble 1000000 t then getG gs (t - 1000000) else getArg args t, fun _ => none⟩
theorem getG_rep {C : Nat → Nat → Value → Prop} {w : World} : ∀ {gs : List (Nat × List E)}, (∀ x ∈ gs, RepD p0 C w (.one (.eptr x.2)) (.pointer (some ⟨x.1, 0, none⟩))) → ∀ n, RepD p0 C w (getG gs n) (.pointer (some ⟨n, 0, none⟩))
  | [], _, _ => trivial
  | (g, es) :: r, h, n => by
    unfold getG
    cases hb : Nat.beq g n with
    | true =>
      have := Nat.eq_of_beq_eq_true hb
      subst this
      exact h _ (List.mem_cons_self ..)
    | false => exact getG_rep (fun x hx => h x (List.mem_cons_of_mem _ hx)) n
theorem glob_of {gs : List (Nat × List E)} {tm : Nat → D} (hgl : gs.map (fun x => tm (1000000 + x.1)) = gs.map fun x => .one (.eptr x.2)) : ∀ x ∈ gs, tm (1000000 + x.1) = .one (.eptr x.2) := fun x hx => by
  obtain ⟨i, hi⟩ := List.getElem?_of_mem hx
  have := congrArg (fun l => l[i]?) hgl
  simp only [List.getElem?_map, hi, Option.map_some, Option.some.injEq] at this
  exact this
end Go.Proofs.YtcdifgacoleckaaDoor.Ab
namespace Go.Proofs.YtcdifgacoleckaaDoor.Ab
open Go Go.RowKit

/-- only data in its cells -/
def Blk.isE (b : Blk) : Bool :=
  match b.body with
  | .row _ _ => true
  | .box (.es _) => true
  | .box (.ds _) => false
  | .raw _ => false
theorem Blk.isE_cells {b : Blk} (h : b.isE = true) : ∀ x ∈ b.cells, ∃ e, x = D0.e e := by
  obtain ⟨v, bd, p⟩ := b
  intro x hx
  cases bd with
  | row z xs => obtain ⟨e, _, rfl⟩ := List.mem_map.1 hx; exact ⟨e, rfl⟩
  | box c => cases c with
    | es xs => obtain ⟨e, _, rfl⟩ := List.mem_map.1 hx; exact ⟨e, rfl⟩
    | ds xs => cases h
  | raw o => cases h

def X0 (w : World) (I : Nat → Nat → Prop) : Ctx := ⟨w, I, 1, by decide, fun _ => False, fun _ => 0, []⟩
/-- function f, given data, and given what some variables of the package hold, answers r, whose own rows and variables are ms -/
def FnO (P : Program) (f : Nat) (gs : List (Nat × List E)) (args : List D) (r : D) (ms : List (Nat × Blk)) : Prop :=
  FnOk P f ∧ ∀ (w : World) (vs : Array Value) (I : Nat → Nat → Prop), (∀ x ∈ gs, RepD p0 (CI w I) w (.one (.eptr x.2)) (.pointer (some ⟨x.1, 0, none⟩))) → RepAs (CI w I) w args vs.toList →
    Calls P f vs w fun e w' => ∃ v, e = .returned v ∧ ∃ μ : Nat → Option Nat, RM (X0 w I) ⟨lookM ms, μ⟩ w' ∧ RepD ⟨lookM ms, μ⟩ (CW (X0 w I) ⟨lookM ms, μ⟩ w') w' r v

def toTupO : D → Option (Bool × Cs)
  | .one (.e x) => some (false, .es [x])
  | .one x => some (false, .ds [x])
  | .agg c => some (true, c)
  | _ => none
def tupOs : List D → Option (List (Bool × Cs))
  | [] => some []
  | d :: r => match toTupO d, tupOs r with
    | some x, some xs => some (x :: xs)
    | _, _ => none
def joinO : List D → Option D
  | [d] => some d
  | ds => match tupOs ds with
    | some xs => some (.tup xs)
    | none => none
theorem toTupO_rep {p : Rho} {C : Nat → Nat → Value → Prop} {w : World} {d : D} {v : Value} {x : Bool × Cs} (h : RepD p C w d v) (hd : toTupO d = some x) : RepT p C w x v := by
  unfold toTupO at hd
  split at hd
  · cases hd
    refine ⟨rfl, fun i y u hy hu => ?_⟩
    cases i with
    | zero => simp [Cs.d0] at hy hu; subst hy; subst hu; exact h
    | succ i => simp [Cs.d0] at hy
  · cases hd
    refine ⟨rfl, fun i y u hy hu => ?_⟩
    cases i with
    | zero => simp [Cs.d0] at hy hu; subst hy; subst hu; exact h
    | succ i => simp [Cs.d0] at hy
  · cases hd
    exact h
  · cases hd
theorem tupOs_rep {p : Rho} {C : Nat → Nat → Value → Prop} {w : World} : ∀ {ds : List D} {xs : List (Bool × Cs)} {vs : List Value}, (ds.length = vs.length ∧ ∀ (i : Nat) d v, ds[i]? = some d → vs[i]? = some v → RepD p C w d v) → tupOs ds = some xs →
    xs.length = vs.length ∧ ∀ (i : Nat) x u, xs[i]? = some x → vs[i]? = some u → RepT p C w x u
  | [], _, vs, h, ht => by cases ht; exact ⟨h.1, fun i x u hx => nomatch hx⟩
  | d :: r, xs, [], h, ht => by have := h.1; simp at this
  | d :: r, xs, v :: vs, h, ht => by
    rw [tupOs] at ht
    split at ht
    · rename_i x xs' h1 h2
      cases ht
      have ih := tupOs_rep (ds := r) (vs := vs) ⟨by simpa using h.1, fun i d v hd hv => h.2 (i + 1) d v (by simpa using hd) (by simpa using hv)⟩ h2
      refine ⟨by simp [ih.1], fun i y u hy hu => ?_⟩
      cases i with
      | zero => simp at hy hu; subst hy; subst hu; exact toTupO_rep (h.2 0 d v rfl rfl) h1
      | succ i => exact ih.2 i y u (by simpa using hy) (by simpa using hu)
    · cases ht
theorem joinO_rep {p : Rho} {C : Nat → Nat → Value → Prop} {w : World} {ds : List D} {d : D} {vs : List Value} (h : ds.length = vs.length ∧ ∀ (i : Nat) d v, ds[i]? = some d → vs[i]? = some v → RepD p C w d v) (hd : joinO ds = some d) : RepD p C w d (if h : vs.toArray.size = 1 then vs.toArray[0] else .tuple vs.toArray) := by
  unfold joinO at hd
  split at hd
  · rename_i d'
    cases hd
    obtain ⟨v, rfl⟩ := List.length_eq_one_iff.1 h.1.symm
    exact h.2 0 d v rfl rfl
  · rename_i hne
    split at hd
    · rename_i xs hx
      cases hd
      have h1 : ¬ vs.length = 1 := fun h1 => by
        obtain ⟨d', rfl⟩ := List.length_eq_one_iff.1 (h.1.trans h1)
        exact hne d' rfl
      rw [dif_neg (by simpa using h1)]
      obtain ⟨k1, k2⟩ := tupOs_rep h hx
      exact ⟨vs, rfl, k1, k2⟩
    · cases hd

/-- a function's body ends well: its results are r, with the blocks ms -/
def EndsO (T : Nat → Option TI) (rs : List ResultVar) (r : D) (ms : List (Nat × Blk)) (e : Exit) (s : St) : Prop :=
  (e = .normal ∨ e = .ret) ∧ ∃ φ ds d, (bif rs.all resOk then resL T s rs else none) = some (φ, ds) ∧ φ ∧ joinO ds = some d ∧ ∀ X, Le X ⟨fun t => bif Nat.beq t 0 then d else .any, s.mem⟩ (St.of [(0, r)] ms)

section
variable {P : Program} {T : Nat → Option TI} {X : Ctx}
theorem fn_introO (hT : TOk P T) {f : Nat} {fn : Func} {c : Code} (hf : P.funcs[f]? = some fn) (hb : fn.body = some c) (hname : (fn.name == "runtime.NumGoroutine") = false) {gs : List (Nat × List E)} {args : List D} {r : D} {ms : List (Nat × Blk)} (hn : args.length ≤ fn.ntmps)
    (h : ∀ X : Ctx, X.nt = fn.ntmps → Tr P X c (St.startG gs args) (EndsO T fn.results.toList r ms)) (hbig : Nat.ble fn.ntmps 900000 = true := by rfl) (hlt : Nat.ble 1048576 f = false := by rfl) : FnO P f gs args r ms := by
  refine ⟨⟨fn, c, hf, hb, Bool.or_eq_false_iff.2 ⟨hname, hlt⟩⟩, fun w vs I hgs hargs => ?_⟩
  have hlen : args.length = vs.size := by simpa using hargs.1
  let X : Ctx := ⟨w, I, fn.ntmps, Nat.le_of_ble_eq_true hbig, fun _ => False, fun _ => 0, []⟩
  refine calls_of_wp hf hb (wp_mono (h X rfl _ w ⟨fun _ => none, ⟨Bel.refl _, fun id blk hb => nomatch hb⟩, by show (vs ++ Array.replicate (fn.ntmps - vs.size) undef).size = fn.ntmps; simp; omega, rfl, fun t => ?_⟩) fun e a w' ⟨s', hE, hR⟩ => ?_)
  · show RepD p0 _ w (bif Nat.ble 1000000 t then getG gs (t - 1000000) else getArg args t) _
    cases hbt : Nat.ble 1000000 t with
    | true =>
      have e : slotV X.xg (vs ++ Array.replicate (fn.ntmps - vs.size) undef) t = .pointer (some ⟨t - 1000000, 0, none⟩) := by
        unfold slotV
        rw [hbt]
        rfl
      rw [e]
      exact getG_rep (fun x hx => (hgs x hx).p0_own fun b o u h => ⟨h.1, fun _ => h.2, fun _ id blk hb => nomatch hb⟩) _
    | false =>
    rw [cond_false, getArg_get]
    cases hd : args[t]? with
    | none => trivial
    | some d =>
      have ht : t < vs.size := by rw [← hlen]; exact (List.getElem?_eq_some_iff.1 hd).1
      have hv : slotV X.xg (vs ++ Array.replicate (fn.ntmps - vs.size) undef) t = vs[t] := by
        have := Nat.le_of_ble_eq_true hbig
        rw [slotV_lt (by omega), Array.getD_eq_getD_getElem?, Array.getElem?_append_left ht, Array.getElem?_eq_getElem ht]
        rfl
      simp only [Option.getD_some]
      rw [hv]
      refine (hargs.2 t d vs[t] hd (by simp [ht])).p0_own fun b o u h => ⟨h.1, fun _ => h.2, fun _ id blk hb => nomatch hb⟩
  · obtain ⟨hend, φ, ds, d, h1, hφ, hj, hle⟩ := hE
    obtain ⟨μ, hM, hsz, hdf, hr⟩ := hR
    cases hro : fn.results.toList.all resOk with
    | false => rw [hro] at h1; cases h1
    | true =>
    rw [hro] at h1
    obtain ⟨us', k1, k2, k3⟩ := resL_run hT hM hr (fun x hx => List.all_eq_true.1 hro x hx) h1 hφ
    have hd := joinO_rep ⟨k2, k3⟩ hj
    have hrun : (results fn a.tmps).run P w' = .ok (if h : us'.toArray.size = 1 then us'.toArray[0] else .tuple us'.toArray) w' := by
      have he : results fn a.tmps = (do let vs ← fn.results.mapM (resF a.tmps); pure (if h : vs.size = 1 then vs[0] else .tuple vs) : Sem Value) := rfl
      rw [he, Sem.run_bind, Array.mapM_eq_mapM_toList, Sem.run_map, k1]
      rfl
    generalize (if h : us'.toArray.size = 1 then us'.toArray[0] else .tuple us'.toArray) = v at hd hrun
    obtain ⟨μ', hM', _, _, hr'⟩ := hle (X0 w I) { a with tmps := #[v] } w' ⟨μ, ⟨hM.bel, hM.blk⟩, rfl, hdf, fun t => by
      cases ht : Nat.beq t 0 with
      | true =>
        obtain rfl := Nat.eq_of_beq_eq_true ht
        exact hd
      | false =>
        show RepD _ _ _ (bif Nat.beq t 0 then d else .any) _
        rw [ht]
        trivial⟩
    have hfin : bodyPost P fn (fun e w'' => ∃ v, e = .returned v ∧ ∃ μ : Nat → Option Nat, RM (X0 w I) ⟨lookM ms, μ⟩ w'' ∧ RepD ⟨lookM ms, μ⟩ (CW (X0 w I) ⟨lookM ms, μ⟩ w'') w'' r v) .normal a w' :=
      ⟨hdf, _, hrun, v, rfl, μ', hM', hr' 0⟩
    rcases hend with rfl | rfl
    · exact hfin
    · exact hfin
end

/-! ### calls -/
def nv (m : Mem) (id : Nat) : Nat := match m id with | some b => b.ver + 1 | none => 0
def D0.ren (m : Mem) (base : Nat) : D0 → Option D0
  | .e x => some (.e x)
  | .nil => some .nil
  | .own i v => some (.own (base + i) (v + nv m (base + i)))
  | _ => none
def renL (m : Mem) (base : Nat) : List D0 → Option (List D0)
  | [] => some []
  | x :: r => match x.ren m base, renL m base r with
    | some y, some ys => some (y :: ys)
    | _, _ => none
def Cs.ren (m : Mem) (base : Nat) : Cs → Option Cs
  | .es xs => some (.es xs)
  | .ds xs => match renL m base xs with
    | some ys => some (.ds ys)
    | none => none
def renT (m : Mem) (base : Nat) : List (Bool × Cs) → Option (List (Bool × Cs))
  | [] => some []
  | (b, c) :: r => match c.ren m base, renT m base r with
    | some d, some ds => some ((b, d) :: ds)
    | _, _ => none
def D.ren (m : Mem) (base : Nat) : D → Option D
  | .one x => match x.ren m base with
    | some y => some (.one y)
    | none => none
  | .agg c => match c.ren m base with
    | some d => some (.agg d)
    | none => none
  | .tup xs => match renT m base xs with
    | some ys => some (.tup ys)
    | none => none
  | _ => none
/-- the blocks that came -/
def newB (ms : List (Nat × Blk)) (base id : Nat) : Option Blk := bif Nat.ble base id then lookM ms (id - base) else none
def memO (m : Mem) (ms : List (Nat × Blk)) (base : Nat) : Mem := fun id => match newB ms base id with
  | some b => some ⟨b.ver + nv m id, b.body, b.pub⟩
  | none => m id
theorem newB_add {ms : List (Nat × Blk)} {base i : Nat} : newB ms base (base + i) = lookM ms i := by
  unfold newB
  rw [show Nat.ble base (base + i) = true from Nat.ble_eq_true_of_le (Nat.le_add_right ..), cond_true, Nat.add_sub_cancel_left]
theorem newB_some {ms : List (Nat × Blk)} {base id : Nat} {b : Blk} (h : newB ms base id = some b) : ∃ i, id = base + i ∧ lookM ms i = some b := by
  unfold newB at h
  cases hb : Nat.ble base id with
  | false => rw [hb] at h; cases h
  | true =>
    rw [hb] at h
    have := Nat.le_of_ble_eq_true hb
    exact ⟨id - base, by omega, h⟩

section
variable {P : Program} {X : Ctx}
theorem renD_rep {p p' : Rho} {C C' : Nat → Nat → Value → Prop} {w : World} {m : Mem} {base : Nat} (hC : ∀ b o u, C b o u → C' b o u) (h : ∀ i b, p.mem i = some b → ∃ b', p'.mem (base + i) = some b' ∧ b'.ver = b.ver + nv m (base + i) ∧ b'.body = b.body ∧ p'.μ (base + i) = p.μ i) {r r' : D} {v : Value} (hr : r.ren m base = some r') (hv : RepD p C w r v) : RepD p' C' w r' v := by
  have h0 : ∀ (x y : D0) (v : Value), x.ren m base = some y → Rep0 p C w x v → Rep0 p' C' w y v := by
    intro x y v hx hv
    unfold D0.ren at hx
    split at hx
    · cases hx; exact RepE.mono hC hv
    · cases hx; exact hv
    · rename_i i ver
      cases hx
      obtain ⟨k0, blk, k1, k2, k3⟩ := hv
      obtain ⟨b', e1, e2, e3, e4⟩ := h i blk k1
      refine ⟨k0, b', e1, by omega, fun e => ?_⟩
      obtain ⟨z, n, z1, z2, z3⟩ := k3 (by omega)
      refine ⟨z, n, by rw [e3]; exact z1, z2, ?_⟩
      rcases z3 with z3 | ⟨g, cap, g1, g2⟩
      · exact .inl z3
      · exact .inr ⟨g, cap, by rw [e4]; exact g1, g2⟩
    · cases hx
  have hl : ∀ (xs ys : List D0) (vs : List Value), renL m base xs = some ys → Rep2 p C w xs vs → Rep2 p' C' w ys vs := by
    intro xs
    induction xs with
    | nil => intro ys vs hx hv; cases hx; exact ⟨hv.1, fun i x u hx => nomatch hx⟩
    | cons x xs ih =>
      intro ys vs hx hv
      rw [renL] at hx
      split at hx
      · rename_i y ys' h1 h2
        cases hx
        cases vs with
        | nil => have := hv.1; simp at this
        | cons v vs =>
          have := ih ys' vs h2 ⟨by simpa using hv.1, fun i x u hx hu => hv.2 (i + 1) x u (by simpa using hx) (by simpa using hu)⟩
          refine ⟨by simp [this.1], fun i x' u hx hu => ?_⟩
          cases i with
          | zero => simp at hx hu; subst hx; subst hu; exact h0 _ _ _ h1 (hv.2 0 _ _ rfl rfl)
          | succ i => exact this.2 i x' u (by simpa using hx) (by simpa using hu)
      · cases hx
  have hc : ∀ (c d : Cs) (vs : List Value), c.ren m base = some d → Rep2 p C w c.d0 vs → Rep2 p' C' w d.d0 vs := by
    intro c d vs hx hv
    unfold Cs.ren at hx
    split at hx
    · cases hx
      exact ⟨hv.1, fun i x u hx hu => by
        have h1 := hv.2 i x u hx hu
        simp only [Cs.d0, List.getElem?_map, Option.map_eq_some_iff] at hx
        obtain ⟨e, _, rfl⟩ := hx
        exact RepE.mono hC h1⟩
    · split at hx
      · rename_i h1
        cases hx
        exact hl _ _ _ h1 hv
      · cases hx
  have ht : ∀ (xs ys : List (Bool × Cs)) (vs : List Value), renT m base xs = some ys → (xs.length = vs.length ∧ ∀ (i : Nat) x u, xs[i]? = some x → vs[i]? = some u → RepT p C w x u) → ys.length = vs.length ∧ ∀ (i : Nat) x u, ys[i]? = some x → vs[i]? = some u → RepT p' C' w x u := by
    intro xs
    induction xs with
    | nil => intro ys vs hx hv; cases hx; exact ⟨hv.1, fun i x u hx => nomatch hx⟩
    | cons x xs ih =>
      obtain ⟨b, c⟩ := x
      intro ys vs hx hv
      rw [renT] at hx
      split at hx
      · rename_i y ys' h1 h2
        cases hx
        cases vs with
        | nil => have := hv.1; simp at this
        | cons v vs =>
          have := ih ys' vs h2 ⟨by simpa using hv.1, fun i x u hx hu => hv.2 (i + 1) x u (by simpa using hx) (by simpa using hu)⟩
          refine ⟨by simp [this.1], fun i x' u hx hu => ?_⟩
          cases i with
          | zero =>
            simp at hx hu
            subst hx
            subst hu
            have hT := hv.2 0 _ _ rfl rfl
            cases b with
            | true => obtain ⟨vs', rfl, h3⟩ := hT; exact ⟨vs', rfl, hc _ _ _ h1 h3⟩
            | false => exact hc _ _ _ h1 hT
          | succ i => exact this.2 i x' u (by simpa using hx) (by simpa using hu)
      · cases hx
  unfold D.ren at hr
  split at hr
  · split at hr
    · rename_i h1
      cases hr
      exact h0 _ _ _ h1 hv
    · cases hr
  · split at hr
    · rename_i h1
      cases hr
      obtain ⟨vs, rfl, h2⟩ := hv
      exact ⟨vs, rfl, hc _ _ _ h1 h2⟩
    · cases hr
  · split at hr
    · rename_i h1
      cases hr
      obtain ⟨vs, rfl, h2⟩ := hv
      exact ⟨vs, rfl, ht _ _ _ h1 h2⟩
    · cases hr
  · cases hr

theorem lookM_isE : ∀ {l : List (Nat × Blk)}, (∀ x ∈ l, x.2.isE = true) → ∀ i b, lookM l i = some b → b.isE = true
  | [], _, i, b, h => by cases h
  | (k, c) :: l, hl, i, b, h => by
    rw [lookM] at h
    cases hk : Nat.beq i k with
    | true => rw [hk] at h; cases h; exact hl (k, c) (List.mem_cons_self ..)
    | false => rw [hk] at h; exact lookM_isE (fun x hx => hl x (List.mem_cons_of_mem _ hx)) i b h
/-- own blocks that a call made, taken over -/
theorem RM.adopt {M : Mem} {μ μf : Nat → Option Nat} {w w' : World} {ms : List (Nat × Blk)} {base : Nat} {I : Nat → Nat → Prop} (h1 : RM X ⟨M, μ⟩ w) (h2 : RM (X0 w I) ⟨lookM ms, μf⟩ w') (hms : ms.all (fun x => x.2.isE) = true)
    (hI : ∀ b o, I b o → (¬ X.own b → X.I b o) ∧ (X.own b → ∀ id blk, M id = some blk → μ id = some b → o < blk.pub)) :
    ∃ μ', RM X ⟨memO M ms base, μ'⟩ w' ∧ Kept ⟨M, μ⟩ (CW X ⟨M, μ⟩ w) w ⟨memO M ms base, μ'⟩ (CW X ⟨memO M ms base, μ'⟩ w') w' ∧
      (∀ b o u, CW (X0 w I) ⟨lookM ms, μf⟩ w' b o u → CW X ⟨memO M ms base, μ'⟩ w' b o u) ∧ ∀ i b, lookM ms i = some b → ∃ b', memO M ms base (base + i) = some b' ∧ b'.ver = b.ver + nv M (base + i) ∧ b'.body = b.body ∧ μ' (base + i) = μf i := by
  have hb : Below w.heap.size w w' := h2.bel.toBelow (fun _ h => h)
  have hE : ∀ i b, lookM ms i = some b → b.isE = true := fun i b => lookM_isE (fun x hx => List.all_eq_true.1 hms x hx) i b
  have F1 : ∀ id blk g, M id = some blk → μ id = some g → g < w.heap.size := fun id blk g m1 m2 => by
    have := h1.blk id blk m1
    simp only [BlkOk, m2] at this
    obtain ⟨_, _, _, _, cur, e, lo, hi, g4, _⟩ := this
    exact (Array.getElem?_eq_some_iff.1 g4).1
  have F2 : ∀ i blk g, lookM ms i = some blk → μf i = some g → w.heap.size ≤ g := fun i blk g m1 m2 => by
    have := h2.blk i blk m1
    simp only [BlkOk, m2] at this
    exact this.2.1.elim id fun h => h.elim
  let μ' : Nat → Option Nat := fun id => match newB ms base id with
    | some _ => μf (id - base)
    | none => μ id
  have mO : ∀ id b, newB ms base id = some b → memO M ms base id = some ⟨b.ver + nv M id, b.body, b.pub⟩ ∧ μ' id = μf (id - base) := fun id b h => by
    refine ⟨?_, ?_⟩
    · unfold memO
      rw [h]
    · show (match newB ms base id with | some _ => μf (id - base) | none => μ id) = _
      rw [h]
  have mN : ∀ id, newB ms base id = none → memO M ms base id = M id ∧ μ' id = μ id := fun id h => by
    refine ⟨?_, ?_⟩
    · unfold memO
      rw [h]
    · show (match newB ms base id with | some _ => μf (id - base) | none => μ id) = _
      rw [h]
  have back : ∀ id blk g, memO M ms base id = some blk → μ' id = some g → (∃ i b, id = base + i ∧ lookM ms i = some b ∧ μf i = some g ∧ blk = ⟨b.ver + nv M id, b.body, b.pub⟩) ∨ (newB ms base id = none ∧ M id = some blk ∧ μ id = some g) := fun id blk g m1 m2 => by
    cases hn : newB ms base id with
    | none =>
      obtain ⟨e1, e2⟩ := mN id hn
      rw [e1] at m1
      rw [e2] at m2
      exact .inr ⟨rfl, m1, m2⟩
    | some b =>
      obtain ⟨e1, e2⟩ := mO id b hn
      obtain ⟨i, rfl, hi⟩ := newB_some hn
      rw [e1] at m1
      rw [e2, Nat.add_sub_cancel_left] at m2
      cases m1
      exact .inl ⟨i, b, rfl, hi, m2, rfl⟩
  let p : Rho := ⟨M, μ⟩
  let p' : Rho := ⟨memO M ms base, μ'⟩
  have hC : ∀ b o u, CW X p w b o u → CW X p' w' b o u := fun b o u ⟨k1, k2, k3⟩ => by
    have hlt := cell_lt k1
    refine ⟨by rw [hb.cell (p := ⟨b, o, none⟩) hlt]; exact k1, k2, fun hle id blk m1 m2 => ?_⟩
    rcases back id blk b m1 m2 with ⟨i, b', _, q1, q2, _⟩ | ⟨_, q1, q2⟩
    · exact absurd (F2 i b' b q1 q2) (Nat.not_le.2 hlt)
    · exact k3 hle id blk q1 q2
  have hK : Kept p (CW X p w) w p' (CW X p' w') w' :=
    Kept.of hC (fun g n ⟨cur, e, fr, z1, z2⟩ => ⟨cur, e, fr, by rw [hb.block _ (Array.getElem?_eq_some_iff.1 z1).1]; exact z1, z2⟩) (fun id blk hm => by
      have hm : M id = some blk := hm
      cases hn : newB ms base id with
      | none =>
        obtain ⟨e1, e2⟩ := mN id hn
        exact ⟨blk, e1.trans hm, Nat.le_refl _, fun _ => ⟨e2, rfl⟩⟩
      | some b =>
        obtain ⟨e1, e2⟩ := mO id b hn
        have hv : nv M id = blk.ver + 1 := by
          unfold nv
          rw [hm]
        exact ⟨_, e1, by show blk.ver ≤ b.ver + nv M id; omega, fun e => by
          have e : blk.ver = b.ver + nv M id := e
          omega⟩)
  have hX : ∀ b o u, CW (X0 w I) ⟨lookM ms, μf⟩ w' b o u → CW X p' w' b o u := fun b o u ⟨k1, k2, k3⟩ => by
    have k2 : b < w.heap.size → I b o := fun h => k2 fun q => q.elim (fun q => Nat.not_lt.2 q h) id
    have k3 : w.heap.size ≤ b → ∀ id blk, lookM ms id = some blk → μf id = some b → o < blk.pub := fun h => k3 (.inl h)
    refine ⟨k1, fun hno => (hI b o (k2 (Nat.lt_of_not_le fun q => hno (.inl (Nat.le_trans h1.bel.size q))))).1 hno, fun hle id blk m1 m2 => ?_⟩
    rcases back id blk b m1 m2 with ⟨i, b', _, q1, q2, rfl⟩ | ⟨_, q1, q2⟩
    · exact k3 (F2 i b' b q1 q2) i b' q1 q2
    · exact (hI b o (k2 (F1 id blk b q1 q2))).2 hle id blk q1 q2
  refine ⟨μ', ⟨h1.bel.below hb, fun id blk hbk => ?_⟩, hK, hX, fun i b hi => ?_⟩
  · have hbk : memO M ms base id = some blk := hbk
    cases hn : newB ms base id with
    | none =>
      obtain ⟨e1, e2⟩ := mN id hn
      rw [e1] at hbk
      have := h1.blk id blk hbk
      unfold BlkOk at this ⊢
      show match μ' id with | none => _ | some g => _
      rw [e2]
      split
      · rename_i hg; simpa [hg] using this
      · rename_i g hg
        simp only [hg] at this
        obtain ⟨g0, g1, g2, g3, cur, e, lo, hi, g4, g5, g6, g7⟩ := this
        refine ⟨g0, g1, fun id' blk' m1 m2 => ?_, g3, cur, e, lo, hi, by rw [hb.block _ (Array.getElem?_eq_some_iff.1 g4).1]; exact g4, g5, g6, fun i x hx => ?_⟩
        · rcases back id' blk' g m1 m2 with ⟨i, b', _, q1, q2, _⟩ | ⟨_, q1, q2⟩
          · exact absurd (F2 i b' g q1 q2) (Nat.not_le.2 (Array.getElem?_eq_some_iff.1 g4).1)
          · exact g2 id' blk' q1 q2
        · obtain ⟨u, u1, u2⟩ := g7 i x hx
          exact ⟨u, u1, u2.kept hK⟩
    | some b =>
      obtain ⟨e1, e2⟩ := mO id b hn
      obtain ⟨i, rfl, hi⟩ := newB_some hn
      rw [Nat.add_sub_cancel_left] at e2
      rw [e1] at hbk
      cases hbk
      have := h2.blk i b hi
      unfold BlkOk at this ⊢
      show match μ' (base + i) with | none => _ | some g => _
      rw [e2]
      split
      · rename_i hg
        simp only [hg] at this
        exact this
      · rename_i g hg
        simp only [hg] at this
        obtain ⟨g0, g1, g2, g3, cur, e, lo, hi', g4, g5, g6, g7⟩ := this
        have g1 : w.heap.size ≤ g := g1.elim id fun h => h.elim
        refine ⟨g0, .inl (Nat.le_trans h1.bel.size g1), fun id' blk' m1 m2 => ?_, g3, cur, e, lo, hi', g4, g5, g6, fun j x hx => ?_⟩
        · rcases back id' blk' g m1 m2 with ⟨k, b', rfl, q1, q2, _⟩ | ⟨_, q1, q2⟩
          · rw [g2 k b' q1 q2]
          · exact absurd g1 (Nat.not_le.2 (F1 id' blk' g q1 q2))
        · obtain ⟨u, u1, u2⟩ := g7 j x hx
          obtain ⟨e', rfl⟩ := Blk.isE_cells (hE i b hi) x (List.mem_of_getElem? hx)
          exact ⟨u, u1, RepE.mono hX u2⟩
  · obtain ⟨e1, e2⟩ := mO (base + i) b (newB_add.trans hi)
    rw [Nat.add_sub_cancel_left] at e2
    exact ⟨_, e1, rfl, rfl, e2⟩

/-- a call of a function that hands out rows of its own -/
theorem opT_callO {gs : List (Nat × List E)} {ops : Array Oper} {s : St} {o : Oper} {fo : Operand} {f t base : Nat} {args : Array Operand} {ts : Array TypeId} (hop : o.op = .call ⟨.value fo, args, ts⟩) (hgd : gdOf ops s o = .free) (hfo : (s.ev fo).strip = .one (.clo f [])) {as : List D} {us : Upds} {r r' : D} {ms : List (Nat × Blk)}
    (has : dataL s.mem (args.toList.map fun x => (s.ev x).strip) = some (as, us)) (hn : ∀ p ∈ needL s (fo :: args.toList), p) (hgl : ∀ x ∈ gs, s.tm (1000000 + x.1) = .one (.eptr x.2)) (hfn : FnO P f gs as r ms) (hms : ms.all (fun x => x.2.isE) = true) (hren : r.ren (appU s.mem us) base = some r') (hdst : o.dst = some t) (hd : Nat.blt t X.nt = true) : OpT P X ops o s ⟨upd s.tm t r', memO (appU s.mem us) ms base⟩ := by
  intro Q a w ⟨μ, hM, hsz, hdf, hr⟩
  rw [if_pos (gd_free hgd a)]
  obtain ⟨⟨fn, c, k1, k2, k34⟩, hfn⟩ := hfn
  obtain ⟨k3, k4⟩ := Bool.or_eq_false_iff.1 k34
  obtain ⟨r1, r2, r3, r4⟩ := RM.pubs us s.mem hM (dataL_ok has)
  have hrep := dataL_rep (vs := (args.map a.eval).toList) r1 ⟨by simp, fun i d v hd hv => by
    simp only [List.getElem?_map, Array.toList_map, Option.map_eq_some_iff] at hd hv
    obtain ⟨x, hx, rfl⟩ := hd
    obtain ⟨y, hy, rfl⟩ := hv
    rw [hx] at hy
    cases hy
    exact (strip_rep (ev_rep hr x) (needs_all hn x (List.mem_cons_of_mem _ (List.mem_of_getElem? hx)))).kept r2⟩ has r3
  have hf := strip_rep (ev_rep hr fo) (needs_all hn fo (List.mem_cons_self ..))
  rw [hfo] at hf
  obtain ⟨vs0, hfv, hl0, _⟩ := hf
  rw [cloV_lt k4] at hfv
  have hvs0 : vs0 = [] := List.eq_nil_of_length_eq_zero (by simpa using hl0.symm)
  subst hvs0
  have hcall : (execOp a.eval o).run P w = .ok (.enter f (args.map a.eval)) w := by
    have hb : fn.body.isNone = false := by rw [k2]; rfl
    have hne : ¬ (fn.name = "runtime.NumGoroutine") := by simpa using k3
    simp [execOp, hop, resolve, hfv, Deferred.ofValue, invoke, callFunc, k1, hne, k2]
  unfold Oper.wp
  rw [hcall, Oper.upon_enter]
  let I : Nat → Nat → Prop := fun b o => (¬ X.own b → X.I b o) ∧ (X.own b → ∀ id blk, appU s.mem us id = some blk → μ id = some b → o < blk.pub)
  refine (hfn w (args.map a.eval) I (fun x hx => by
    have h1 := hr (1000000 + x.1)
    rw [hgl x hx, slotV_glob] at h1
    exact eptr_mono (fun b o u h => ⟨h.1, h.2⟩) (h1.kept r2)) ⟨hrep.1, fun i d v hd hv => (hrep.2 i d v hd hv).kept (p0_kept fun b o u h => ⟨h.1, h.2⟩)⟩).mono ?_
  rintro e w' ⟨v, rfl, μf, hMf, hv⟩
  obtain ⟨μ', q1, q2, q3, q4⟩ := RM.adopt (base := base) r1 hMf hms (fun b o h => h)
  have hv' := renD_rep (p := ⟨lookM ms, μf⟩) (p' := ⟨memO (appU s.mem us) ms base, μ'⟩) q3 q4 hren hv
  refine ⟨μ', q1, by rw [hdst]; simp [Act.put, hsz], by rw [hdst]; exact hdf, ?_⟩
  have := put_rep (dst := some t) hr (r2.trans q2) hv' hsz hd []
  rw [hdst]
  exact this
/-- the same in a plain region -/
theorem callO {gs : List (Nat × List E)} {nt : Nat} {ops : Array Oper} {o : Oper} {rest : List Oper} {tm : Nat → D} {m : Mem} {fo : Operand} {f t base : Nat} {args : Array Operand} {ts : Array TypeId} {as : List D} {us : Upds} {r r' : D} {ms : List (Nat × Blk)} {s'' : St} (hop : o.op = .call ⟨.value fo, args, ts⟩) (hgd : gdOf ops ⟨tm, m⟩ o = .free) (hfo : ((⟨tm, m⟩ : St).ev fo).strip = .one (.clo f []))
    (has : dataL m (args.toList.map fun x => ((⟨tm, m⟩ : St).ev x).strip) = some (as, us)) (hn : needL ⟨tm, m⟩ (fo :: args.toList) = []) (hd : o.dst = some t) (hlt : Nat.blt t nt = true) (hnt : X.nt = nt) (hgl : gs.map (fun x => tm (1000000 + x.1)) = gs.map fun x => .one (.eptr x.2)) (hms : ms.all (fun x => x.2.isE) = true) (hfn : FnO P f gs as r ms) (hren : r.ren (updM m us) base = some r') (k : Lex P X ops rest ⟨upd tm t r', memO (updM m us) ms base⟩ s'') : Lex P X ops (o :: rest) ⟨tm, m⟩ s'' := by
  rw [updM_eq] at hren k
  exact .cons (opT_callO (us := us) hop hgd hfo has (fun p hp => by rw [hn] at hp; cases hp) (glob_of hgl) hfn hms hren hd (by rw [hnt]; exact hlt)) k
end
section
variable {P : Program} {X : Ctx}
/-- ways that meet: behind a the states are those of H -/
theorem tr_join {σ : Type} (H : σ → St) (J : σ → Prop) {a b : Code} {s : St} {Q : Exit → St → Prop} (h : Tr P X a s (fun | .normal, t => ∃ x, J x ∧ Le X t (H x) | e, t => Q e t)) (k : ∀ x, J x → Tr P X b (H x) Q) : Tr P X a s (andThen P X b Q) :=
  tr_mono h fun e t he => by
    cases e with
    | normal =>
      obtain ⟨x, hx, hle⟩ := he
      exact tr_le hle (k x hx)
    | _ => exact he
end

theorem repE_len {C : Nat → Nat → Value → Prop} {xs : List (List E)} {v : Value} (h : RepE C (.sl xs) v) : xs.length ≤ maxLen := by
  obtain ⟨A, n, cap, z, b, o, U, _, hn, hc, hm, _⟩ := repE_sl h
  omega
theorem repAs_len {C : Nat → Nat → Value → Prop} {w : World} {args : List D} {vs : List Value} (ha : RepAs C w args vs) {i : Nat} {xs : List (List E)} (h : args[i]? = some (.one (.e (.sl xs)))) : xs.length ≤ maxLen := by
  have hi : i < vs.length := by
    rw [← ha.1]
    exact (List.getElem?_eq_some_iff.1 h).1
  exact repE_len (ha.2 i _ _ h (List.getElem?_eq_getElem hi))
theorem FnD.len {P : Program} {f : Nat} {args : List D} {r : D} (hok : FnOk P f) (i : Nat) {xs : List (List E)} (h : args[i]? = some (.one (.e (.sl xs)))) (k : xs.length ≤ maxLen → FnD P f args r) : FnD P f args r :=
  ⟨hok, fun w vs I ha => (k (repAs_len ha h)).2 w vs I ha⟩
theorem FnG.len {P : Program} {f : Nat} {gs : List (Nat × List E)} {args : List D} {r : D} (hok : FnOk P f) (i : Nat) {xs : List (List E)} (h : args[i]? = some (.one (.e (.sl xs)))) (k : xs.length ≤ maxLen → FnG P f gs args r) : FnG P f gs args r :=
  ⟨hok, fun w vs I hg ha => (k (repAs_len ha h)).2 w vs I hg ha⟩
/-- fields of a struct that is given -/
theorem repAs_lenA {C : Nat → Nat → Value → Prop} {w : World} {args : List D} {vs : List Value} (ha : RepAs C w args vs) {i j : Nat} {es : List E} {xs : List (List E)} (h : args[i]? = some (.agg (.es es))) (hj : es[j]? = some (.sl xs)) : xs.length ≤ maxLen := by
  have hi : i < vs.length := by
    rw [← ha.1]
    exact (List.getElem?_eq_some_iff.1 h).1
  obtain ⟨us, _, hl, hu⟩ := ha.2 i _ _ h (List.getElem?_eq_getElem hi)
  have hd : (Cs.es es).d0[j]? = some (.e (.sl xs)) := by simp [Cs.d0, hj]
  have hju : j < us.length := by
    rw [← hl]
    exact (List.getElem?_eq_some_iff.1 hd).1
  exact repE_len (hu j _ _ hd (List.getElem?_eq_getElem hju))
theorem FnD.lenA {P : Program} {f : Nat} {args : List D} {r : D} (hok : FnOk P f) (i j : Nat) {es : List E} {xs : List (List E)} (h : args[i]? = some (.agg (.es es))) (hj : es[j]? = some (.sl xs)) (k : xs.length ≤ maxLen → FnD P f args r) : FnD P f args r :=
  ⟨hok, fun w vs I ha => (k (repAs_lenA ha h hj)).2 w vs I ha⟩
theorem FnG.lenA {P : Program} {f : Nat} {gs : List (Nat × List E)} {args : List D} {r : D} (hok : FnOk P f) (i j : Nat) {es : List E} {xs : List (List E)} (h : args[i]? = some (.agg (.es es))) (hj : es[j]? = some (.sl xs)) (k : xs.length ≤ maxLen → FnG P f gs args r) : FnG P f gs args r :=
  ⟨hok, fun w vs I hg ha => (k (repAs_lenA ha h hj)).2 w vs I hg ha⟩
end Go.Proofs.YtcdifgacoleckaaDoor.Ab
namespace Go.Proofs.YtcdifgacoleckaaDoor.Ab
open Go Go.RowKit

/-- the effect of one operation, a call or another; r: the blocks that it reads; it writes those of us -/
inductive Eff1 (P : Program) (T : Nat → Option TI) (nt : Nat) (ops : Array Oper) (F : List Nat) (o : Oper) (s : St) : D → Upds → Prop
  | op {φ : Prop} {d : D} {us : Upds} (h : stepE T nt ops s o = some ⟨φ, d, us⟩) (hφ : φ) : Eff1 P T nt ops F o s d us
  | call {fo : Operand} {f : Nat} {args : Array Operand} {ts : Array TypeId} {as : List D} {us : Upds} {r : D} (hop : o.op = .call ⟨.value fo, args, ts⟩) (hgd : gdOf ops s o = .free) (hfo : (s.ev fo).strip = .one (.clo f []))
      (has : dataL s.mem (args.toList.map fun x => (s.ev x).strip) = some (as, us)) (hn : ∀ p ∈ needL s (fo :: args.toList), p) (hfn : FnD P f as r) (hd : dstOk nt o.dst = true) : Eff1 P T nt ops F o s r us
  | ext {fo : Operand} {f : Nat} {args : Array Operand} {ts : Array TypeId} {as : List D} {us : Upds} {r : D} (hop : o.op = .call ⟨.value fo, args, ts⟩) (hgd : gdOf ops s o = .free) (hfo : (s.ev fo).strip = .one (.clo f []))
      (has : dataL s.mem (args.toList.map fun x => (s.ev x).strip) = some (as, us)) (hn : ∀ p ∈ needL s (fo :: args.toList), p) (hfn : FnE P f as r) (hd : dstOk nt o.dst = true) : Eff1 P T nt ops F o s r us
  | callC {fo : Operand} {f : Nat} {caps : List (Nat × Nat × Nat)} {args : Array Operand} {ts : Array TypeId} {as : List D} {us : Upds} {r : D} (hop : o.op = .call ⟨.value fo, args, ts⟩) (hgd : gdOf ops s o = .free) (hfo : (s.ev fo).strip = .one (.clo f caps))
      (has : dataL s.mem ((args.toList.map fun x => (s.ev x).strip) ++ capD caps) = some (as, us)) (hn : ∀ p ∈ needL s (fo :: args.toList), p) (hfn : FnD P f as r) (hd : dstOk nt o.dst = true) : Eff1 P T nt ops F o s r us
  | callG {fo : Operand} {f : Nat} {args : Array Operand} {ts : Array TypeId} {q : Prop} {as : List D} {r : D} (hop : o.op = .call ⟨.value fo, args, ts⟩) (hgd : gdOf ops s o = .iff q) (hfo : (s.ev fo).strip = .one (.clo f []))
      (has : dataL s.mem (args.toList.map fun x => (s.ev x).strip) = some (as, [])) (hn : q → ∀ p ∈ needL s (fo :: args.toList), p) (hfn : q → FnD P f as r) (hd : dstOk nt o.dst = true) : Eff1 P T nt ops F o s (.gd q r) []
  | callV {gs : List (Nat × List E)} {fo : Operand} {f : Nat} {args : Array Operand} {ts : Array TypeId} {as : List D} {us : Upds} {r : D} (hop : o.op = .call ⟨.value fo, args, ts⟩) (hgd : gdOf ops s o = .free) (hfo : (s.ev fo).strip = .one (.clo f []))
      (has : dataL s.mem (args.toList.map fun x => (s.ev x).strip) = some (as, us)) (hn : ∀ p ∈ needL s (fo :: args.toList), p) (hgl : ∀ x ∈ gs, s.tm (1000000 + x.1) = .one (.eptr x.2)) (hfn : FnG P f gs as r) (hd : dstOk nt o.dst = true) : Eff1 P T nt ops F o s r us
  | callVG {gs : List (Nat × List E)} {fo : Operand} {f : Nat} {args : Array Operand} {ts : Array TypeId} {q : Prop} {as : List D} {r : D} (hop : o.op = .call ⟨.value fo, args, ts⟩) (hgd : gdOf ops s o = .iff q) (hfo : (s.ev fo).strip = .one (.clo f []))
      (has : dataL s.mem (args.toList.map fun x => (s.ev x).strip) = some (as, [])) (hn : q → ∀ p ∈ needL s (fo :: args.toList), p) (hgl : ∀ x ∈ gs, s.tm (1000000 + x.1) = .one (.eptr x.2)) (hfn : q → FnG P f gs as r) (hd : dstOk nt o.dst = true) : Eff1 P T nt ops F o s (.gd q r) []
  | callO {gs : List (Nat × List E)} {fo : Operand} {f t i v : Nat} {b : Blk} {args : Array Operand} {ts : Array TypeId} {as : List D} (hop : o.op = .call ⟨.value fo, args, ts⟩) (hgd : gdOf ops s o = .free) (hfo : (s.ev fo).strip = .one (.clo f []))
      (has : dataL s.mem (args.toList.map fun x => (s.ev x).strip) = some (as, [])) (hn : ∀ p ∈ needL s (fo :: args.toList), p) (hgl : ∀ x ∈ gs, s.tm (1000000 + x.1) = .one (.eptr x.2)) (hfn : FnO P f gs as (.one (.own i v)) [(i, b)]) (hb : b.isE = true) (hit : Nat.ble i t = true) (hdst : o.dst = some t) (hd : Nat.blt t nt = true) : Eff1 P T nt ops F o s (.one (.own t (v + nv s.mem t))) [(t, ⟨b.ver + nv s.mem t, b.body, b.pub⟩)]
  | gen {d : D} {us : Upds} (h : ∀ s', Same ops o s s' → (∀ k, inB F k = true → s.mem k = s'.mem k) → ∀ X : Ctx, X.nt = nt → OpT P X ops o s' (s'.app o.dst d us)) : Eff1 P T nt ops F o s d us

theorem memO_one (m : Mem) {i t : Nat} (hit : Nat.ble i t = true) (b : Blk) : memO m [(i, b)] (t - i) = upd m t (some ⟨b.ver + nv m t, b.body, b.pub⟩) := by
  have hit := Nat.le_of_ble_eq_true hit
  funext id
  unfold memO newB lookM lookM
  by_cases h : id = t
  · subst h
    rw [show Nat.ble (id - i) id = true from Nat.ble_eq_true_of_le (Nat.sub_le ..), show id - (id - i) = i by omega, show Nat.beq i i = true from Nat.beq_refl i]
    simp [upd]
  · have : (bif Nat.ble (t - i) id then bif Nat.beq (id - (t - i)) i then some b else none else none) = none := by
      cases h1 : Nat.ble (t - i) id with
      | false => rfl
      | true =>
        have h1 := Nat.le_of_ble_eq_true h1
        cases h2 : Nat.beq (id - (t - i)) i with
        | false => rfl
        | true => have h2 := Nat.eq_of_beq_eq_true h2; exact absurd (by omega) h
    rw [this]
    have hb : Nat.beq id t = false := by cases hb : Nat.beq id t with | true => exact absurd (Nat.eq_of_beq_eq_true hb) h | false => rfl
    show m id = bif Nat.beq id t then _ else m id
    rw [hb]
    rfl

section
variable {P : Program} {T : Nat → Option TI} {X : Ctx} {nt : Nat} {ops : Array Oper}

theorem Eff1.sound (hT : TOk P T) (hnt : X.nt = nt) {F : List Nat} {o : Oper} {s : St} {d : D} {us : Upds} (h : Eff1 P T nt ops F o s d us) : OpT P X ops o s (s.app o.dst d us) := by
  cases h with
  | gen h => exact h s ⟨fun _ _ => rfl, fun _ _ _ _ => rfl, rfl, fun _ => rfl⟩ (fun _ _ => rfl) X hnt
  | op h hφ => subst hnt; exact step_sound hT h hφ
  | call hop hgd hfo has hn hfn hd => subst hnt; exact opT_call hop hgd hfo has hn hfn hd
  | ext hop hgd hfo has hn hfn hd => subst hnt; exact opT_ext hop hgd hfo has hn hfn hd
  | callC hop hgd hfo has hn hfn hd => subst hnt; exact opT_callC hop hgd hfo has hn hfn hd
  | callG hop hgd hfo has hn hfn hd => subst hnt; exact opT_callG hop hgd hfo has hn hfn hd
  | callV hop hgd hfo has hn hgl hfn hd => subst hnt; exact opT_callV hop hgd hfo has hn hgl hfn hd
  | callVG hop hgd hfo has hn hgl hfn hd => subst hnt; exact opT_callVG hop hgd hfo has hn hgl hfn hd
  | callO hop hgd hfo has hn hgl hfn hb hit hdst hd =>
    subst hnt
    rename_i gs fo f t i v b args ts as
    have h := opT_callO (P := P) (X := X) (ops := ops) (s := s) (o := o) (us := []) (base := t - i) (r' := .one (.own t (v + nv s.mem t))) hop hgd hfo has hn hgl hfn (by simp [hb]) (by
      have := Nat.le_of_ble_eq_true hit
      show some (D.one (.own (t - i + i) (v + nv s.mem (t - i + i)))) = _
      rw [Nat.sub_add_cancel this]) hdst hd
    rw [show s.app o.dst (.one (.own t (v + nv s.mem t))) [(t, ⟨b.ver + nv s.mem t, b.body, b.pub⟩)] = ⟨upd s.tm t (.one (.own t (v + nv s.mem t))), memO (appU s.mem []) [(i, b)] (t - i)⟩ by
      rw [memO_one _ hit]; unfold St.app; rw [hdst]; rfl]
    exact h

theorem dataD_congr {m m' : Mem} {d : D} (h : Alk m m' d) : dataD m d = dataD m' d := by
  unfold dataD
  split
  · rfl
  · rename_i i v o; rw [h i (by simp [idsD, ids0])]
  · rename_i x _; rw [frz_congr (fun i hi => h i (by simpa [idsD] using hi))]
  · rename_i c; rw [frzC_congr (fun i hi => h i (by simpa [idsD] using hi))]
  · rfl
theorem dataL_congr {m m' : Mem} : ∀ {l : List D}, (∀ d ∈ l, Alk m m' d) → dataL m l = dataL m' l
  | [], _ => rfl
  | d :: r, h => by rw [dataL, dataL, dataD_congr (h d (by simp)), dataL_congr (fun d hd => h d (by simp [hd]))]

theorem capD_alk {m m' : Mem} : ∀ {caps : List (Nat × Nat × Nat)}, (∀ c ∈ caps, m c.1 = m' c.1) → ∀ d ∈ capD caps, Alk m m' d
  | [], _, d, hd => by cases hd
  | c :: caps, hA, d, hd => by
    rcases List.mem_cons.1 hd with rfl | hd
    · intro i hi
      simp [idsD, ids0] at hi
      subst hi
      exact hA c (List.mem_cons_self ..)
    · exact capD_alk (fun c hc => hA c (List.mem_cons_of_mem _ hc)) d hd
theorem gd_congr {o : Oper} {s s' : St} (h : Same ops o s s') : gdOf ops s o = gdOf ops s' o := by
  unfold gdOf
  split
  · rfl
  · rename_i g b hg
    split
    · rename_i og hog
      split
      · rename_i t ht
        rw [h.tm t (by unfold Oper.looksAt; rw [hg]; simp [hog, ht])]
      · rfl
    · rfl

theorem needL_congr {s s' : St} : ∀ {l : List Operand}, (∀ x ∈ l, s.ev x = s'.ev x) → needL s l = needL s' l
  | [], _ => rfl
  | x :: r, h => by rw [needL, needL, h x (by simp), needL_congr (fun x hx => h x (by simp [hx]))]

theorem stepE_congr {o : Oper} {s s' : St} (h : Same ops o s s') : stepE T nt ops s o = stepE T nt ops s' o := by
  have hraw : rawE T s (dstId o.dst) o.op = rawE T s' (dstId o.dst) o.op := by
    by_cases hp : ∃ c x y, o.op = .pick c x y
    · obtain ⟨c, x, y, ho⟩ := hp
      rw [ho]
      show pickE s c x y = pickE s' c x y
      unfold pickE
      rw [h.ev c (by rw [ho]; simp [Op.operands]), h.ev x (by rw [ho]; simp [Op.operands]), h.ev y (by rw [ho]; simp [Op.operands])]
    · unfold rawE
      split
      · rename_i ho; exact absurd ⟨_, _, _, ho⟩ hp
      · rw [eff_congr (m' := s'.mem) (fun x hx => alk_strip (h.mem x hx)) h.dst, effEv_congr (ev' := fun x => (s'.ev x).strip) (fun x hx => by simp only [h.ev x hx]), needL_congr (fun x hx => h.ev x (by simpa using hx))]
  have hI : ∀ id, id = dstId o.dst → stepI T ops s o id = stepI T ops s' o id := fun id e => by
    subst e
    unfold stepI
    rw [gd_congr h, hraw]
  unfold stepE
  split
  · rename_i t ht; rw [hI t (by rw [ht]; rfl)]
  · rename_i ht; rw [hI 0 (by rw [ht]; rfl)]

theorem args_congr {o : Oper} {s s' : St} (h : Same ops o s s') {c : Call} (hc : o.op = .call c) {l : List Operand} (hl : ∀ x ∈ l, x ∈ o.op.operands) : dataL s.mem (l.map fun x => (s.ev x).strip) = dataL s'.mem (l.map fun x => (s'.ev x).strip) := by
  rw [show (l.map fun x => (s'.ev x).strip) = l.map fun x => (s.ev x).strip from List.map_congr_left fun x hx => by rw [h.ev x (hl x hx)]]
  refine dataL_congr fun d hd => ?_
  obtain ⟨x, hx, rfl⟩ := List.mem_map.1 hd
  exact alk_strip (h.mem x (rdO_call hc (hl x hx)))
theorem Same.trans {o : Oper} {s s' s'' : St} (h : Same ops o s s') (k : Same ops o s' s'') : Same ops o s s'' :=
  ⟨fun t ht => (h.tm t ht).trans (k.tm t ht), fun x hx i hi => (h.mem x hx i hi).trans (k.mem x hx i (by rw [← h.ev x (rdO_sub hx)]; exact hi)), h.dst.trans k.dst, fun g => (h.glob g).trans (k.glob g)⟩
theorem Eff1.congr {F : List Nat} {o : Oper} {s s' : St} {d : D} {us : Upds} (h : Same ops o s s') (hF : ∀ k, inB F k = true → s.mem k = s'.mem k) (k : Eff1 P T nt ops F o s d us) : Eff1 P T nt ops F o s' d us := by
  cases k with
  | gen hg => exact .gen fun s'' h2 h3 X hX => hg s'' (h.trans h2) (fun k hk => (hF k hk).trans (h3 k hk)) X hX
  | op hs hφ => exact .op (by rw [← stepE_congr h]; exact hs) hφ
  | call hop hgd hfo has hn hfn hd =>
    have hargs : ∀ x ∈ (_ : Array Operand).toList, x ∈ o.op.operands := fun x hx => by
      rw [hop]; simp only [Op.operands, Call.operands]; simp at hx ⊢; exact .inr hx
    refine .call hop (by rw [← gd_congr h]; exact hgd) (by rw [← h.ev _ (by rw [hop]; simp [Op.operands, Call.operands])]; exact hfo) (as := _) ?_ ?_ hfn hd
    · rw [← has]
      exact (args_congr h hop hargs).symm
    · rw [← needL_congr (s := s) fun x hx => by
        rcases List.mem_cons.1 hx with rfl | hx
        · exact h.ev _ (by rw [hop]; simp [Op.operands, Call.operands])
        · exact h.ev x (hargs x hx)]
      exact hn
  | ext hop hgd hfo has hn hfn hd =>
    have hargs : ∀ x ∈ (_ : Array Operand).toList, x ∈ o.op.operands := fun x hx => by
      rw [hop]; simp only [Op.operands, Call.operands]; simp at hx ⊢; exact .inr hx
    refine .ext hop (by rw [← gd_congr h]; exact hgd) (by rw [← h.ev _ (by rw [hop]; simp [Op.operands, Call.operands])]; exact hfo) (as := _) ?_ ?_ hfn hd
    · rw [← has]
      exact (args_congr h hop hargs).symm
    · rw [← needL_congr (s := s) fun x hx => by
        rcases List.mem_cons.1 hx with rfl | hx
        · exact h.ev _ (by rw [hop]; simp [Op.operands, Call.operands])
        · exact h.ev x (hargs x hx)]
      exact hn
  | callC hop hgd hfo has hn hfn hd =>
    rename_i fo f caps args ts as
    have hargs : ∀ x ∈ args.toList, x ∈ o.op.operands := fun x hx => by
      rw [hop]; simp only [Op.operands, Call.operands]; simp at hx ⊢; exact .inr hx
    have hfm : fo ∈ o.op.operands := by rw [hop]; simp [Op.operands, Call.operands]
    refine .callC hop (by rw [← gd_congr h]; exact hgd) (by rw [← h.ev _ hfm]; exact hfo) (as := _) ?_ ?_ hfn hd
    · rw [← has, show (args.toList.map fun x => (s'.ev x).strip) = args.toList.map fun x => (s.ev x).strip from List.map_congr_left fun x hx => by rw [h.ev x (hargs x hx)]]
      refine (dataL_congr fun d hd => ?_).symm
      rcases List.mem_append.1 hd with hd | hd
      · obtain ⟨x, hx, rfl⟩ := List.mem_map.1 hd
        exact alk_strip (h.mem x (rdO_call hop (hargs x hx)))
      · have hA : Alk s.mem s'.mem (.one (.clo f caps)) := hfo ▸ alk_strip (h.mem fo (rdO_call hop hfm))
        have hA : ∀ c ∈ caps, s.mem c.1 = s'.mem c.1 := fun c hc => hA c.1 (by simp only [idsD, ids0]; exact List.mem_map_of_mem hc)
        exact capD_alk hA d hd
    · rw [← needL_congr (s := s) fun x hx => by
        rcases List.mem_cons.1 hx with rfl | hx
        · exact h.ev _ hfm
        · exact h.ev x (hargs x hx)]
      exact hn
  | callG hop hgd hfo has hn hfn hd =>
    have hargs : ∀ x ∈ (_ : Array Operand).toList, x ∈ o.op.operands := fun x hx => by
      rw [hop]; simp only [Op.operands, Call.operands]; simp at hx ⊢; exact .inr hx
    refine .callG hop (by rw [← gd_congr h]; exact hgd) (by rw [← h.ev _ (by rw [hop]; simp [Op.operands, Call.operands])]; exact hfo) (as := _) ?_ ?_ hfn hd
    · rw [← has]
      exact (args_congr h hop hargs).symm
    · rw [← needL_congr (s := s) fun x hx => by
        rcases List.mem_cons.1 hx with rfl | hx
        · exact h.ev _ (by rw [hop]; simp [Op.operands, Call.operands])
        · exact h.ev x (hargs x hx)]
      exact hn
  | callV hop hgd hfo has hn hgl hfn hd =>
    have hargs : ∀ x ∈ (_ : Array Operand).toList, x ∈ o.op.operands := fun x hx => by
      rw [hop]; simp only [Op.operands, Call.operands]; simp at hx ⊢; exact .inr hx
    refine .callV hop (by rw [← gd_congr h]; exact hgd) (by rw [← h.ev _ (by rw [hop]; simp [Op.operands, Call.operands])]; exact hfo) (as := _) ?_ ?_ (fun x hx => (h.glob x.1) ▸ hgl x hx) hfn hd
    · rw [← has]
      exact (args_congr h hop hargs).symm
    · rw [← needL_congr (s := s) fun x hx => by
        rcases List.mem_cons.1 hx with rfl | hx
        · exact h.ev _ (by rw [hop]; simp [Op.operands, Call.operands])
        · exact h.ev x (hargs x hx)]
      exact hn
  | callVG hop hgd hfo has hn hgl hfn hd =>
    have hargs : ∀ x ∈ (_ : Array Operand).toList, x ∈ o.op.operands := fun x hx => by
      rw [hop]; simp only [Op.operands, Call.operands]; simp at hx ⊢; exact .inr hx
    refine .callVG hop (by rw [← gd_congr h]; exact hgd) (by rw [← h.ev _ (by rw [hop]; simp [Op.operands, Call.operands])]; exact hfo) (as := _) ?_ ?_ (fun x hx => (h.glob x.1) ▸ hgl x hx) hfn hd
    · rw [← has]
      exact (args_congr h hop hargs).symm
    · rw [← needL_congr (s := s) fun x hx => by
        rcases List.mem_cons.1 hx with rfl | hx
        · exact h.ev _ (by rw [hop]; simp [Op.operands, Call.operands])
        · exact h.ev x (hargs x hx)]
      exact hn
  | callO hop hgd hfo has hn hgl hfn hb hit hdst hd =>
    rename_i gs fo f t i v b args ts as
    have hargs : ∀ x ∈ args.toList, x ∈ o.op.operands := fun x hx => by
      rw [hop]; simp only [Op.operands, Call.operands]; simp at hx ⊢; exact .inr hx
    have hnv : nv s.mem t = nv s'.mem t := by
      have h1 := h.dst
      rw [hdst] at h1
      unfold nv
      rw [show s.mem t = s'.mem t from h1]
    rw [hnv]
    refine .callO hop (by rw [← gd_congr h]; exact hgd) (by rw [← h.ev _ (by rw [hop]; simp [Op.operands, Call.operands])]; exact hfo) (as := as) ?_ ?_ (fun x hx => (h.glob x.1) ▸ hgl x hx) hfn hb hit hdst hd
    · rw [← has]
      exact (args_congr h hop hargs).symm
    · rw [← needL_congr (s := s) fun x hx => by
        rcases List.mem_cons.1 hx with rfl | hx
        · exact h.ev _ (by rw [hop]; simp [Op.operands, Call.operands])
        · exact h.ev x (hargs x hx)]
      exact hn
end
end Go.Proofs.YtcdifgacoleckaaDoor.Ab
namespace Go.Proofs.YtcdifgacoleckaaDoor.Ab
open Go Go.RowKit

abbrev FP := List Nat × List Nat

section
variable {P : Program} {T : Nat → Option TI} {X : Ctx} {nt : Nat} {ops : Array Oper}

structure Sd (P : Program) (T : Nat → Option TI) (nt : Nat) (ops : Array Oper) (fp : FP) (o : Oper) (s : St) (d : D) (us : Upds) : Prop where
  eff : Eff1 P T nt ops fp.1 o s d us
  rd : ∀ x ∈ rdO o.op, ∀ k ∈ idsD (s.ev x), inB fp.1 k = true
  rdD : inB fp.1 (dstId o.dst) = true
  wr : ∀ u ∈ us, inB fp.2 u.1 = true

def apartL (l r : List Nat) : Bool :=
  match l with
  | [] => true
  | k :: l => !inB r k && apartL l r
theorem apartL_ok {l r : List Nat} (h : apartL l r = true) : ∀ k, inB l k = true → inB r k = false := by
  induction l with
  | nil => intro k hk; cases hk
  | cons a l ih =>
    simp only [apartL, Bool.and_eq_true, Bool.not_eq_true'] at h
    intro k hk
    simp only [inB, Bool.or_eq_true] at hk
    rcases hk with hk | hk
    · obtain rfl := Nat.eq_of_beq_eq_true hk; exact h.1
    · exact ih h.2 k hk

def smallD : Option Tmp → Bool
  | none => true
  | some k => Nat.blt k 1000000
def indepB (ops : Array Oper) (fi fj : FP) (oi oj : Oper) : Bool :=
  oi.apart ops oj && apartL fi.2 fj.1 && apartL fi.2 fj.2 && apartL fj.2 fi.1 && smallD oi.dst && smallD oj.dst

theorem appU_other : ∀ (us : Upds) (m : Mem) (k : Nat), (∀ u ∈ us, u.1 ≠ k) → appU m us k = m k
  | [], m, k, _ => rfl
  | u :: us, m, k, h => by rw [appU_cons, appU_other us _ k (fun v hv => h v (by simp [hv])), upd_ne _ _ (Ne.symm (h u (by simp)))]
theorem appU_val : ∀ (us : Upds) (m m' : Mem) (k : Nat), (∃ u ∈ us, u.1 = k) → appU m us k = appU m' us k
  | [], m, m', k, h => by obtain ⟨u, hu, _⟩ := h; cases hu
  | u :: us, m, m', k, h => by
    rw [appU_cons, appU_cons]
    by_cases hk : ∃ v ∈ us, v.1 = k
    · exact appU_val us _ _ k hk
    · have hn : ∀ v ∈ us, v.1 ≠ k := fun v hv e => hk ⟨v, hv, e⟩
      rw [appU_other us _ k hn, appU_other us _ k hn]
      obtain ⟨v, hv, e⟩ := h
      rcases List.mem_cons.1 hv with rfl | hv
      · rw [← e, upd_same, upd_same]
      · exact absurd e (hn v hv)
theorem appU_comm (m : Mem) (us vs : Upds) (h : ∀ u ∈ us, ∀ v ∈ vs, u.1 ≠ v.1) : appU (appU m us) vs = appU (appU m vs) us := by
  funext k
  by_cases h1 : ∃ u ∈ us, u.1 = k
  · obtain ⟨u, hu, rfl⟩ := h1
    have hv : ∀ v ∈ vs, v.1 ≠ u.1 := fun v hv e => h u hu v hv e.symm
    rw [appU_other vs _ _ hv]
    exact appU_val us _ _ _ ⟨u, hu, rfl⟩
  · have hu : ∀ u ∈ us, u.1 ≠ k := fun u hu e => h1 ⟨u, hu, e⟩
    rw [appU_other us (appU m vs) k hu]
    by_cases h2 : ∃ v ∈ vs, v.1 = k
    · exact appU_val vs _ _ k h2
    · have hv : ∀ v ∈ vs, v.1 ≠ k := fun v hv e => h2 ⟨v, hv, e⟩
      rw [appU_other vs _ k hv, appU_other vs _ k hv, appU_other us _ k hu]

theorem upd_comm {α : Type} (f : Nat → α) {i j : Nat} (x y : α) (h : i ≠ j) : upd (upd f i x) j y = upd (upd f j y) i x := by
  funext k
  by_cases h1 : k = i
  · subst h1
    rw [upd_ne _ _ h, upd_same, upd_same]
  · rw [upd_ne (upd f j y) _ h1]
    by_cases h2 : k = j
    · subst h2; rw [upd_same, upd_same]
    · rw [upd_ne _ _ h2, upd_ne _ _ h2, upd_ne _ _ h1]

theorem app_tm {s : St} {dst : Option Tmp} {d : D} {us : Upds} {t : Nat} (h : ∀ k, dst = some k → k ≠ t) : (s.app dst d us).tm t = s.tm t := by
  cases dst with
  | none => rfl
  | some k => exact upd_ne _ _ (Ne.symm (h k rfl))

theorem app_glob {s : St} {dst : Option Tmp} {d : D} {us : Upds} (h : smallD dst = true) (g : Nat) : (s.app dst d us).tm (1000000 + g) = s.tm (1000000 + g) := by
  refine app_tm fun k hk e => ?_
  subst hk
  have h1 : k < 1000000 := Nat.blt_eq.mp h
  have h2 : 1000000 ≤ k := by
    have h3 : k = 1000000 + g := e
    rw [h3]
    exact Nat.le_add_right ..
  exact absurd h1 (Nat.not_lt.2 h2)
theorem same_of {fi fj : FP} {oi oj : Oper} {s : St} {di : D} {usi : Upds} (hsm : smallD oi.dst = true) (h1 : ∀ d, oi.dst = some d → d ∉ oj.looksAt ops) (h2 : apartL fi.2 fj.1 = true) (hw : ∀ u ∈ usi, inB fi.2 u.1 = true)
    (hr : ∀ x ∈ rdO oj.op, ∀ k ∈ idsD (s.ev x), inB fj.1 k = true) (hd : inB fj.1 (dstId oj.dst) = true) : Same ops oj s (s.app oi.dst di usi) := by
  have hne : ∀ k, inB fj.1 k = true → ∀ u ∈ usi, u.1 ≠ k := fun k hk u hu e => by
    have := apartL_ok h2 u.1 (hw u hu)
    rw [e, hk] at this
    cases this
  refine ⟨fun t ht => (app_tm fun k hk e => h1 k hk (e ▸ ht)).symm, fun x hx i hi => (appU_other usi s.mem i (hne i (hr x hx i hi))).symm, (appU_other usi s.mem _ (hne _ hd)).symm, fun g => (app_glob hsm g).symm⟩

theorem ids_same {oi oj : Oper} {s : St} {di : D} {usi : Upds} (hsm : smallD oi.dst = true) (h1 : ∀ d, oi.dst = some d → d ∉ oj.looksAt ops) : ∀ x ∈ oj.op.operands, (s.app oi.dst di usi).ev x = s.ev x := fun x hx => by
  cases x with
  | tmp t =>
    have := app_tm (s := s) (dst := oi.dst) (d := di) (us := usi) (t := t) fun k hk e => h1 k hk (e ▸ List.mem_append_left _ (List.mem_filterMap.2 ⟨.tmp t, by simpa using hx, rfl⟩))
    show (bif Nat.blt t 900000 then (s.app oi.dst di usi).tm t else .any) = bif Nat.blt t 900000 then s.tm t else .any
    rw [this]
  | global g => exact app_glob hsm g
  | _ => rfl

theorem Sd.swap {fi fj : FP} {oi oj : Oper} (hin : indepB ops fi fj oi oj = true) {s : St} {di dj : D} {usi usj : Upds} (hi : Sd P T nt ops fi oi s di usi) (hj : Sd P T nt ops fj oj (s.app oi.dst di usi) dj usj) :
    Sd P T nt ops fj oj s dj usj ∧ Sd P T nt ops fi oi (s.app oj.dst dj usj) di usi ∧ (s.app oi.dst di usi).app oj.dst dj usj = (s.app oj.dst dj usj).app oi.dst di usi := by
  simp only [indepB, Bool.and_eq_true] at hin
  obtain ⟨⟨⟨⟨⟨hap, h12⟩, h22⟩, h21⟩, hsi⟩, hsj⟩ := hin
  obtain ⟨a1, a2, a3⟩ := Oper.apart_spec hap
  have hev := ids_same (s := s) (di := di) (usi := usi) hsi a1
  have hrd : ∀ x ∈ rdO oj.op, ∀ k ∈ idsD (s.ev x), inB fj.1 k = true := fun x hx k hk => hj.rd x hx k (by rw [hev x (rdO_sub hx)]; exact hk)
  have sj : Same ops oj s (s.app oi.dst di usi) := same_of hsi a1 h12 hi.wr hrd hj.rdD
  have hmj : ∀ k, inB fj.1 k = true → (s.app oi.dst di usi).mem k = s.mem k := fun k hk => appU_other usi s.mem k fun u hu e => by
    have := apartL_ok h12 u.1 (hi.wr u hu)
    rw [e, hk] at this
    cases this
  have hmi : ∀ k, inB fi.1 k = true → s.mem k = (s.app oj.dst dj usj).mem k := fun k hk => (appU_other usj s.mem k fun u hu e => by
    have := apartL_ok h21 u.1 (hj.wr u hu)
    rw [e, hk] at this
    cases this).symm
  have ej : Eff1 P T nt ops fj.1 oj s dj usj := hj.eff.congr ⟨fun t ht => (sj.tm t ht).symm, fun x hx i hxi => by
    rw [hev x (rdO_sub hx)] at hxi
    exact (sj.mem x hx i hxi).symm, sj.dst.symm, fun g => (sj.glob g).symm⟩ hmj
  have si : Same ops oi s (s.app oj.dst dj usj) := same_of hsj a3 h21 hj.wr hi.rd hi.rdD
  have hev' := ids_same (s := s) (di := dj) (usi := usj) hsj a3
  refine ⟨⟨ej, hrd, hj.rdD, hj.wr⟩, ⟨hi.eff.congr si hmi, fun x hx k hk => hi.rd x hx k (by rw [hev' x (rdO_sub hx)] at hk; exact hk), hi.rdD, hi.wr⟩, ?_⟩
  have hm : appU (appU s.mem usi) usj = appU (appU s.mem usj) usi := appU_comm _ _ _ fun u hu v hv e => by
    have := apartL_ok h22 u.1 (hi.wr u hu)
    rw [e, hj.wr v hv] at this
    cases this
  unfold St.app
  congr 1
  cases hdi : oi.dst with
  | none => rfl
  | some a => cases hdj : oj.dst with
    | none => rfl
    | some b => exact upd_comm _ _ _ fun e => a2 a hdi (by rw [hdj, e])

/-- every order that may be picked from here on leads to sf -/
def AnyA (P : Program) (T : Nat → Option TI) (nt : Nat) (md : Region.Mode) (ops : Array Oper) (fps : List FP) (sf : St) : Nat → Array Bool → St → Prop
  | 0, listed, s => Region.ready md ops listed = [] ∧ s = sf
  | fuel + 1, listed, s => (Region.ready md ops listed = [] → s = sf) ∧
    ∀ i ∈ Region.ready md ops listed, ∃ o d us, ops[i]? = some o ∧ Sd P T nt ops (fps.getD i ([], [])) o s d us ∧ AnyA P T nt md ops fps sf fuel (listed.setIfInBounds i true) (s.app o.dst d us)

/-- operation b cannot come up before operation i -/
def Waits (md : Region.Mode) (ops : Array Oper) (listed : Array Bool) (i : Nat) (B : List Nat) (b : Nat) : Prop :=
  listed.getD b true = false ∧ ∃ ob, ops[b]? = some ob ∧ ∃ e ∈ ob.after, Region.binds md e = true ∧ (e.on = i ∨ inB B e.on = true)
theorem anyA_first {md : Region.Mode} {fps : List FP} {sf : St} {i : Nat} {oi : Oper} (hi : ops[i]? = some oi) {B : List Nat} :
    ∀ (fuel : Nat) (listed : Array Bool) (s : St) {d : D} {us : Upds},
      (∀ b, inB B b = true → Waits md ops listed i B b) →
      (∀ j oj, ops[j]? = some oj → j ≠ i → listed.getD j true = false → inB B j = false → indepB ops (fps.getD i ([], [])) (fps.getD j ([], [])) oi oj = true) →
      i ∈ Region.ready md ops listed → Sd P T nt ops (fps.getD i ([], [])) oi s d us →
      AnyA P T nt md ops fps sf fuel (listed.setIfInBounds i true) (s.app oi.dst d us) → AnyA P T nt md ops fps sf (fuel + 1) listed s := by
  intro fuel
  induction fuel with
  | zero =>
    intro listed s d us _ _ hr hS H
    refine ⟨fun h => (by rw [h] at hr; cases hr), fun j hj => ?_⟩
    by_cases hji : j = i
    · subst hji; exact ⟨oi, d, us, hi, hS, H⟩
    · have := ready_mono hj hji
      rw [H.1] at this
      cases this
  | succ fuel ih =>
    intro listed s d us hw hfree hr hS H
    refine ⟨fun h => (by rw [h] at hr; cases hr), fun j hj => ?_⟩
    by_cases hji : j = i
    · subst hji; exact ⟨oi, d, us, hi, hS, H⟩
    · obtain ⟨oj, dj, usj, hoj, hSj, HH⟩ := H.2 j (ready_mono hj hji)
      obtain ⟨hjun, oj', hoj', hall⟩ := mem_ready.1 hj
      rw [hoj] at hoj'
      cases hoj'
      have hoff : ∀ k, listed.getD k true = false → ¬ listed[k]? = some true := fun k h0 h1 => by
        rw [Array.getD_eq_getD_getElem?, h1] at h0
        cases h0
      have hnot : inB B j = false := by
        cases hB : inB B j with
        | false => rfl
        | true =>
          obtain ⟨_, ob, hob, e, he, hb, h2⟩ := hw j hB
          rw [hoj] at hob
          cases hob
          have h1 := hall e he hb
          rcases h2 with h2 | h2
          · have h0 := (mem_ready.1 hr).1
            rw [h2] at h1
            exact absurd h1 (by
              rcases Nat.lt_or_ge i listed.size with h' | h'
              · simp [h'] at h0 ⊢; exact h0
              · simp [Array.getElem?_eq_none h'])
          · have h0 := (hw _ h2).1
            exact absurd h1 (by
              rcases Nat.lt_or_ge e.on listed.size with h' | h'
              · simp [h'] at h0 ⊢; exact h0
              · simp [Array.getElem?_eq_none h'])
      obtain ⟨k1, k2, k3⟩ := Sd.swap (hfree j oj hoj hji hjun hnot) hS hSj
      have hw' : ∀ b, inB B b = true → Waits md ops (listed.setIfInBounds j true) i B b := fun b hb => by
        obtain ⟨w1, w2⟩ := hw b hb
        refine ⟨?_, w2⟩
        by_cases hjb : j = b
        · subst hjb; rw [hnot] at hb; cases hb
        · rw [getD_set_ne true hjb]; exact w1
      have hfree' : ∀ k ok, ops[k]? = some ok → k ≠ i → (listed.setIfInBounds j true).getD k true = false →
          inB B k = false → indepB ops (fps.getD i ([], [])) (fps.getD k ([], [])) oi ok = true := fun k ok hk hki hun hno => by
        refine hfree k ok hk hki ?_ hno
        by_cases hjk : j = k
        · subst hjk; exact hjun
        · rw [getD_set_ne true hjk] at hun; exact hun
      refine ⟨oj, dj, usj, hoj, k1, ih (listed.setIfInBounds j true) _ hw' hfree' (ready_mono hr (Ne.symm hji)) k2 ?_⟩
      rw [Array.setIfInBounds_comm _ _ hji, ← k3]
      exact HH

/-- what waits for operation k, straight or through another -/
def blkL (md : Region.Mode) (ops : Array Oper) (listed : Array Bool) (k : Nat) : List Nat → List Nat → List Nat
  | [], B => B
  | j :: r, B =>
    match ops[j]? with
    | some oj => bif !listed.getD j true && oj.after.any (fun e => Region.binds md e && (Nat.beq e.on k || inB B e.on)) then blkL md ops listed k r (j :: B) else blkL md ops listed k r B
    | none => blkL md ops listed k r B
theorem Waits.mono {md : Region.Mode} {listed : Array Bool} {i b : Nat} {B B' : List Nat} (h : ∀ x, inB B x = true → inB B' x = true) (hw : Waits md ops listed i B b) : Waits md ops listed i B' b := by
  obtain ⟨w1, ob, w2, e, w3, w4, w5⟩ := hw
  exact ⟨w1, ob, w2, e, w3, w4, w5.imp id (h _)⟩
theorem blkL_ok {md : Region.Mode} {listed : Array Bool} {k : Nat} : ∀ (l B : List Nat), (∀ b, inB B b = true → Waits md ops listed k B b) →
    (∀ b, inB (blkL md ops listed k l B) b = true → Waits md ops listed k (blkL md ops listed k l B) b)
  | [], B, h => h
  | j :: r, B, h => by
    rw [blkL]
    split
    · rename_i oj hoj
      cases hc : (!listed.getD j true && oj.after.any (fun e => Region.binds md e && (Nat.beq e.on k || inB B e.on))) with
      | false => exact blkL_ok r B h
      | true =>
        simp only [cond_true]
        refine blkL_ok r (j :: B) fun b hb => ?_
        have hsub : ∀ x, inB B x = true → inB (j :: B) x = true := fun x hx => by simp [inB, hx]
        simp only [inB, Bool.or_eq_true] at hb
        rcases hb with hb | hb
        · obtain rfl := Nat.eq_of_beq_eq_true hb
          simp only [Bool.and_eq_true, Bool.not_eq_true'] at hc
          obtain ⟨c1, c2⟩ := hc
          rw [Array.any_eq_true'] at c2
          obtain ⟨e, he, hbn⟩ := c2
          simp only [Bool.and_eq_true, Bool.or_eq_true] at hbn
          exact ⟨c1, oj, hoj, e, he, hbn.1, hbn.2.imp Nat.eq_of_beq_eq_true (hsub _)⟩
        · exact (h b hb).mono hsub
    · exact blkL_ok r B h
/-- operation k is apart from all that have not come up and do not wait for it -/
def freeX (md : Region.Mode) (ops : Array Oper) (fps : List FP) (listed : Array Bool) (k : Nat) : Bool :=
  (List.range ops.size).all fun j =>
    match ops[j]?, ops[k]? with
    | some oj, some ok => Nat.beq j k || listed.getD j true || indepB ops (fps.getD k ([], [])) (fps.getD j ([], [])) ok oj || inB (blkL md ops listed k (List.range ops.size) []) j
    | _, _ => true
def lexX (md : Region.Mode) (ops : Array Oper) (fps : List FP) : Nat → Nat → Array Bool → Bool
  | 0, _, listed => (Region.ready md ops listed).isEmpty
  | fuel + 1, k, listed => (Region.ready md ops listed).contains k && freeX md ops fps listed k && lexX md ops fps fuel (k + 1) (listed.setIfInBounds k true)

theorem freeX_spec {md : Region.Mode} {fps : List FP} {listed : Array Bool} {k : Nat} {ok : Oper} (hk : ops[k]? = some ok) (h : freeX md ops fps listed k = true) : ∀ j oj, ops[j]? = some oj → j ≠ k → listed.getD j true = false → inB (blkL md ops listed k (List.range ops.size) []) j = false →
    indepB ops (fps.getD k ([], [])) (fps.getD j ([], [])) ok oj = true := by
  intro j oj hj hjk hun hno
  have := List.all_eq_true.1 h j (List.mem_range.2 (Array.getElem?_eq_some_iff.1 hj).1)
  rw [hj, hk] at this
  simp only [Bool.or_eq_true] at this
  rcases this with ((h1 | h1) | h1) | h1
  · exact absurd (Nat.eq_of_beq_eq_true h1) hjk
  · rw [hun] at h1; cases h1
  · exact h1
  · rw [hno] at h1; cases h1

/-- the run in the order of the text, with what each operation reads and writes -/
inductive LexD (P : Program) (T : Nat → Option TI) (nt : Nat) (ops : Array Oper) : List Oper → St → List FP → St → Prop
  | nil (s : St) : LexD P T nt ops [] s [] s
  | cons {o : Oper} {r : List Oper} {s s2 : St} {fp : FP} {fps : List FP} {d : D} {us : Upds} (h : Sd P T nt ops fp o s d us) (k : LexD P T nt ops r (s.app o.dst d us) fps s2) : LexD P T nt ops (o :: r) s (fp :: fps) s2

theorem anyA_lex {md : Region.Mode} {fps : List FP} {sf : St} : ∀ (l : List Oper) (k : Nat) (listed : Array Bool) (s : St) (fl : List FP), (∀ j, l[j]? = ops[k + j]?) → (∀ j, fl[j]? = fps[k + j]?) → LexD P T nt ops l s fl sf →
    lexX md ops fps l.length k listed = true → AnyA P T nt md ops fps sf l.length listed s
  | [], k, listed, s, fl, _, _, h, hB => by
    cases h
    exact ⟨by simpa [lexX] using hB, rfl⟩
  | o :: l, k, listed, s, fl, hl, hf, h, hB => by
    cases h with
    | cons hS hk =>
      rename_i fp fps' d us
      have h0 : ops[k]? = some o := by simpa using (hl 0).symm
      have hfp : fps.getD k ([], []) = fp := by
        have : fps[k]? = some fp := by simpa using (hf 0).symm
        rw [List.getD_eq_getElem?_getD, this]; rfl
      simp only [List.length_cons, lexX, Bool.and_eq_true] at hB
      obtain ⟨⟨hr, hfree⟩, hB'⟩ := hB
      exact anyA_first h0 l.length listed s (blkL_ok _ [] fun b hb => nomatch (show false = true from hb)) (freeX_spec h0 hfree) (by simpa using hr) (by rw [hfp]; exact hS)
        (anyA_lex l (k + 1) _ _ fps' (fun j => by have := hl (j + 1); simpa [Nat.add_assoc, Nat.add_comm 1 j] using this) (fun j => by have := hf (j + 1); simpa [Nat.add_assoc, Nat.add_comm 1 j] using this) hk hB')

theorem wpAny_of_A (hT : TOk P T) (hnt : X.nt = nt) {md : Region.Mode} {fps : List FP} {sf : St} {Q : Exit → Act → World → Prop} (hQ : ∀ a w, R X sf a w → Q .normal a w) : ∀ (fuel : Nat) (listed : Array Bool) (s : St) (a : Act) (w : World), R X s a w →
    AnyA P T nt md ops fps sf fuel listed s → wpAny P md ops Q fuel listed a w
  | 0, _, s, a, w, hR, h => ⟨h.1, hQ a w (by rw [← h.2]; exact hR)⟩
  | fuel + 1, listed, s, a, w, hR, h => ⟨fun h0 => hQ a w (by rw [← h.1 h0]; exact hR), fun i hi => by
    obtain ⟨o, d, us, ho, hS, hA⟩ := h.2 i hi
    have := hS.eff.sound hT hnt Q a w hR
    unfold wpOp
    rw [ho]
    simp only
    split
    · rename_i hw
      rw [if_pos hw] at this
      exact .inl (Oper.wp_mono (fun a w hr => wpAny_of_A hT hnt hQ fuel _ _ a w hr hA) this)
    · rename_i hw
      rw [if_neg hw] at this
      exact wpAny_of_A hT hnt hQ fuel _ _ _ _ this hA⟩

theorem tr_draw (hT : TOk P T) (hnt : X.nt = nt) (hm : P.follows .mixedOrders = true) {id : Nat} {s sf : St} {fps : List FP} {Q : Exit → St → Prop} (h : LexD P T nt ops ops.toList s fps sf)
    (hB : lexX .any ops fps ops.size 0 (Array.replicate ops.size false) = true) (hQ : Q .normal sf) : Tr P X (.region id ops true) s Q := by
  intro a w ⟨μ, hM, hsz, hdf, hr⟩
  refine wp_region_any hm ?_
  obtain ⟨h1, h2⟩ := hM.same (w' := { w with drawn := w.drawn + 1 }) rfl rfl rfl rfl
  have hR : R X s a { w with drawn := w.drawn + 1 } := ⟨μ, h1, hsz, hdf, fun t => (hr t).kept h2⟩
  have := anyA_lex (P := P) (T := T) (nt := nt) (md := .any) (fps := fps) ops.toList 0 (Array.replicate ops.size false) s fps (by simp) (by simp) h (by simpa using hB)
  exact wpAny_of_A hT hnt (fun a w hR => ⟨sf, hQ, hR⟩) _ _ _ a _ hR (by simpa using this)
end
end Go.Proofs.YtcdifgacoleckaaDoor.Ab
namespace Go.Proofs.YtcdifgacoleckaaDoor.Ab
open Go Go.RowKit

def fIds {α : Type} (l : List Nat) (k : List Nat → α) : α :=
  match l with
  | [] => k []
  | x :: r => fIds r fun r => k (x :: r)
theorem fIds_eq {α : Type} (l : List Nat) (k : List Nat → α) : fIds l k = k l := by
  induction l generalizing k with
  | nil => rfl
  | cons x r ih => simp only [fIds, ih]
def rdsL (s : St) : List Operand → List Nat
  | [] => []
  | x :: r => idsD (s.ev x) ++ rdsL s r
theorem rdsL_ok {s : St} : ∀ {l : List Operand}, ∀ x ∈ l, ∀ k ∈ idsD (s.ev x), k ∈ rdsL s l
  | [], x, hx, _, _ => by cases hx
  | y :: r, x, hx, k, hk => by
    rw [rdsL]
    rcases List.mem_cons.1 hx with rfl | hx
    · exact List.mem_append_left _ hk
    · exact List.mem_append_right _ (rdsL_ok x hx k hk)
theorem inB_mem : ∀ {l : List Nat} {k : Nat}, k ∈ l → inB l k = true
  | [], k, h => by cases h
  | a :: l, k, h => by
    simp only [inB, Bool.or_eq_true]
    rcases List.mem_cons.1 h with rfl | h
    · exact .inl (Nat.beq_refl _)
    · exact .inr (inB_mem h)

structure RanD where
  ps : List Prop
  tm : Nat → D
  mem : Mem
  rest : List Oper
  fps : List FP

def runD (T : Nat → Option TI) (nt : Nat) (ops : Array Oper) : List Oper → List Prop → (Nat → D) → Mem → Option RanD
  | [], ps, tm, m => some ⟨ps, tm, m, [], []⟩
  | o :: r, ps, tm, m =>
    bif isGo o.op then some ⟨ps, tm, m, o :: r, []⟩ else
    match stepE T nt ops ⟨tm, m⟩ o with
    | some ⟨φ, d, us⟩ => fD d fun d => fU us fun us => fIds (rdsL ⟨tm, m⟩ (rdO o.op)) fun rd =>
      match o.dst, us with
      | some t, [] =>
        match runD T nt ops r (φ :: ps) (upd tm t d) m with
        | some ⟨a, b, c, e, f⟩ => some ⟨a, b, c, e, (t :: rd, []) :: f⟩
        | none => none
      | some t, [(i, b)] =>
        match runD T nt ops r (φ :: ps) (upd tm t d) (upd m i (some b)) with
        | some ⟨a, b, c, e, f⟩ => some ⟨a, b, c, e, (t :: rd, [i]) :: f⟩
        | none => none
      | none, [(i, b)] =>
        match runD T nt ops r (φ :: ps) tm (upd m i (some b)) with
        | some ⟨a, b, c, e, f⟩ => some ⟨a, b, c, e, (0 :: rd, [i]) :: f⟩
        | none => none
      | some t, us =>
        match runD T nt ops r (φ :: ps) (upd tm t d) (updM m us) with
        | some ⟨a, b, c, e, f⟩ => some ⟨a, b, c, e, (t :: rd, us.map (·.1)) :: f⟩
        | none => none
      | none, us =>
        match runD T nt ops r (φ :: ps) tm (updM m us) with
        | some ⟨a, b, c, e, f⟩ => some ⟨a, b, c, e, (0 :: rd, us.map (·.1)) :: f⟩
        | none => none
    | none => none

section
variable {P : Program} {T : Nat → Option TI} {X : Ctx} {nt : Nat} {ops : Array Oper}
theorem runD_mem : ∀ {l : List Oper} {ps : List Prop} {tm : Nat → D} {m : Mem} {q : RanD}, runD T nt ops l ps tm m = some q → (AllP q.ps → AllP ps) ∧ ∀ s'' fps', AllP q.ps → LexD P T nt ops q.rest ⟨q.tm, q.mem⟩ fps' s'' → LexD P T nt ops l ⟨tm, m⟩ (q.fps ++ fps') s''
  | [], ps, tm, m, q, h => by cases h; exact ⟨id, fun s'' _ _ k => k⟩
  | o :: r, ps, tm, m, q, h => by
    rw [runD] at h
    cases hg : isGo o.op with
    | true => simp only [hg, cond_true, Option.some.injEq] at h; subst h; exact ⟨id, fun s'' _ _ k => k⟩
    | false =>
      simp only [hg, cond_false] at h
      split at h
      · rename_i φ d us he
        simp only [fD_eq, fU_eq, fIds_eq] at h
        have key : ∃ q', runD T nt ops r (φ :: ps) (match o.dst with | some t => upd tm t d | none => tm) (appU m us) = some q' ∧ q.ps = q'.ps ∧ q.tm = q'.tm ∧ q.mem = q'.mem ∧ q.rest = q'.rest ∧ q.fps = (dstId o.dst :: rdsL ⟨tm, m⟩ (rdO o.op), us.map (·.1)) :: q'.fps := by
          split at h
          · rename_i t hd
            rw [hd]
            split at h
            · rename_i a b c e f hq; cases h; exact ⟨_, hq, rfl, rfl, rfl, rfl, rfl⟩
            · cases h
          · rename_i t i b hd
            rw [hd]
            split at h
            · rename_i a b c e f hq; cases h; exact ⟨_, hq, rfl, rfl, rfl, rfl, rfl⟩
            · cases h
          · rename_i i b hd
            rw [hd]
            split at h
            · rename_i a b c e f hq; cases h; exact ⟨_, hq, rfl, rfl, rfl, rfl, rfl⟩
            · cases h
          · rename_i t hd _ _
            rw [hd]
            rw [updM_eq] at h
            split at h
            · rename_i a b c e f hq; cases h; exact ⟨_, hq, rfl, rfl, rfl, rfl, rfl⟩
            · cases h
          · rename_i hd _
            rw [hd]
            rw [updM_eq] at h
            split at h
            · rename_i a b c e f hq; cases h; exact ⟨_, hq, rfl, rfl, rfl, rfl, rfl⟩
            · cases h
        obtain ⟨q', hq', e1, e2, e3, e4, e5⟩ := key
        obtain ⟨h1, h2⟩ := runD_mem hq'
        rw [e1, e2, e3, e4, e5]
        refine ⟨fun ha => (AllP_cons.1 (h1 ha)).2, fun s'' fps' ha k => ?_⟩
        rw [List.cons_append]
        refine .cons ⟨.op he (AllP_cons.1 (h1 ha)).1, fun x hx k hk => inB_mem (List.mem_cons_of_mem _ (rdsL_ok x hx k hk)), inB_mem (List.mem_cons_self ..), fun u hu => inB_mem (List.mem_map.2 ⟨u, hu, rfl⟩)⟩ ?_
        exact h2 s'' fps' ha k
      · cases h

/-- operations of a region that draws, up to the next call -/
theorem lexD {l : List Oper} {tm : Nat → D} {m : Mem} {ps : List Prop} {tm' : Nat → D} {m' : Mem} {rest : List Oper} {fps fps' : List FP} {s'' : St} (h : runD T nt ops l [] tm m = some ⟨ps, tm', m', rest, fps⟩) (hp : AllP ps) (k : LexD P T nt ops rest ⟨tm', m'⟩ fps' s'') : LexD P T nt ops l ⟨tm, m⟩ (fps ++ fps') s'' :=
  (runD_mem h).2 s'' fps' hp k
/-- a region that draws its order, without calls -/
theorem regD (hT : TOk P T) (hm : P.follows .mixedOrders = true) (hnt : X.nt = nt) {id : Nat} {tm : Nat → D} {m : Mem} {ps : List Prop} {tm' : Nat → D} {m' : Mem} {fps : List FP} {Q : Exit → St → Prop} (h : runD T nt ops ops.toList [] tm m = some ⟨ps, tm', m', [], fps⟩)
    (hB : lexX .any ops fps ops.size 0 (Array.replicate ops.size false) = true) (hp : AllP ps) (k : Q .normal ⟨tm', m'⟩) : Tr P X (.region id ops true) ⟨tm, m⟩ Q := by
  have := lexD (P := P) (fps' := []) h hp (.nil _)
  rw [List.append_nil] at this
  exact tr_draw hT hnt hm this hB k

/-- a call whose arguments are data -/
theorem call {o : Oper} {rest : List Oper} {tm : Nat → D} {m : Mem} {fo : Operand} {f t : Nat} {args : Array Operand} {ts : Array TypeId} {as : List D} {r : D} {s'' : St} (hop : o.op = .call ⟨.value fo, args, ts⟩) (hgd : gdOf ops ⟨tm, m⟩ o = .free) (hfo : ((⟨tm, m⟩ : St).ev fo).strip = .one (.clo f []))
    (has : dataL m (args.toList.map fun x => ((⟨tm, m⟩ : St).ev x).strip) = some (as, [])) (hn : needL ⟨tm, m⟩ (fo :: args.toList) = []) (hd : o.dst = some t) (hlt : Nat.blt t nt = true) (hnt : X.nt = nt) (hfn : FnD P f as r) (k : Lex P X ops rest ⟨upd tm t r, m⟩ s'') : Lex P X ops (o :: rest) ⟨tm, m⟩ s'' := by
  refine .cons (opT_call (us := []) hop hgd hfo has (fun p hp => by rw [hn] at hp; cases hp) hfn (by rw [hd, hnt]; exact hlt)) ?_
  rw [hd]
  exact k
/-- a call of what the model does itself -/
theorem callE {o : Oper} {rest : List Oper} {tm : Nat → D} {m : Mem} {fo : Operand} {f t : Nat} {args : Array Operand} {ts : Array TypeId} {as : List D} {r : D} {s'' : St} (hop : o.op = .call ⟨.value fo, args, ts⟩) (hgd : gdOf ops ⟨tm, m⟩ o = .free) (hfo : ((⟨tm, m⟩ : St).ev fo).strip = .one (.clo f []))
    (has : dataL m (args.toList.map fun x => ((⟨tm, m⟩ : St).ev x).strip) = some (as, [])) (hn : needL ⟨tm, m⟩ (fo :: args.toList) = []) (hd : o.dst = some t) (hlt : Nat.blt t nt = true) (hnt : X.nt = nt) (hfn : FnE P f as r) (k : Lex P X ops rest ⟨upd tm t r, m⟩ s'') : Lex P X ops (o :: rest) ⟨tm, m⟩ s'' := by
  refine .cons (opT_ext (us := []) hop hgd hfo has (fun p hp => by rw [hn] at hp; cases hp) hfn (by rw [hd, hnt]; exact hlt)) ?_
  rw [hd]
  exact k
/-- a call, some arguments own: they are published -/
theorem callU {o : Oper} {rest : List Oper} {tm : Nat → D} {m : Mem} {fo : Operand} {f t : Nat} {args : Array Operand} {ts : Array TypeId} {as : List D} {us : Upds} {r : D} {s'' : St} (hop : o.op = .call ⟨.value fo, args, ts⟩) (hgd : gdOf ops ⟨tm, m⟩ o = .free) (hfo : ((⟨tm, m⟩ : St).ev fo).strip = .one (.clo f []))
    (has : dataL m (args.toList.map fun x => ((⟨tm, m⟩ : St).ev x).strip) = some (as, us)) (hn : needL ⟨tm, m⟩ (fo :: args.toList) = []) (hd : o.dst = some t) (hlt : Nat.blt t nt = true) (hnt : X.nt = nt) (hfn : FnD P f as r) (k : Lex P X ops rest ⟨upd tm t r, updM m us⟩ s'') : Lex P X ops (o :: rest) ⟨tm, m⟩ s'' := by
  refine .cons (opT_call (us := us) hop hgd hfo has (fun p hp => by rw [hn] at hp; cases hp) hfn (by rw [hd, hnt]; exact hlt)) ?_
  rw [hd]
  rw [updM_eq] at k
  exact k
end
end Go.Proofs.YtcdifgacoleckaaDoor.Ab
