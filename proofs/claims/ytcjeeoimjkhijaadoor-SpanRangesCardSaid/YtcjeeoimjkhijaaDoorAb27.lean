/- Functions that hand out rows of their own. No condition. -/
import Derived.Test.YtcjeeoimjkhijaaDoorAb26
namespace Go.Proofs.YtcjeeoimjkhijaaDoor.Ab
open Go Go.RowKit

/-- only data in its cells -/
def Blk.isE (b : Blk) : Bool :=
  match b.body with
  | .row _ _ => true
  | .box (.es _) => true
  | .box (.ds _) => false
theorem Blk.isE_cells {b : Blk} (h : b.isE = true) : ∀ x ∈ b.cells, ∃ e, x = D0.e e := by
  obtain ⟨v, bd, p⟩ := b
  intro x hx
  cases bd with
  | row z xs => obtain ⟨e, _, rfl⟩ := List.mem_map.1 hx; exact ⟨e, rfl⟩
  | box c => cases c with
    | es xs => obtain ⟨e, _, rfl⟩ := List.mem_map.1 hx; exact ⟨e, rfl⟩
    | ds xs => cases h

def X0 (w : World) (I : Nat → Nat → Prop) : Ctx := ⟨w, I, 1, by decide, fun _ => False, fun _ => 0⟩
/-- function f, given data, and given what some variables of the package hold, answers r, whose own rows and variables are ms -/
def FnO (P : Program) (f : Nat) (gs : List (Nat × List E)) (args : List D) (r : D) (ms : List (Nat × Blk)) : Prop :=
  FnOk P f ∧ ∀ (w : World) (vs : Array Value) (I : Nat → Nat → Prop), (∀ x ∈ gs, RepD p0 (CI w I) w (.one (.eptr x.2)) (.pointer (some ⟨x.1, 0, none⟩))) → RepAs (CI w I) w args vs.toList →
    Calls P f vs w fun e w' => ∃ v, e = .returned v ∧ ∃ μ : Nat → Option Nat, RM (X0 w I) ⟨lookM ms, μ⟩ w' ∧ RepD ⟨lookM ms, μ⟩ (CW (X0 w I) ⟨lookM ms, μ⟩ w') w' r v

def toTupO : D → Option (Bool × Cs)
  | .one (.e x) => some (false, .es [x])
  | .one x => some (false, .ds [x])
  | .agg c => some (true, c)
  | _ => none
def tupOs : List D → Option (List (Bool × Cs))
  | [] => some []
  | d :: r => match toTupO d, tupOs r with
    | some x, some xs => some (x :: xs)
    | _, _ => none
def joinO : List D → Option D
  | [d] => some d
  | ds => match tupOs ds with
    | some xs => some (.tup xs)
    | none => none
theorem toTupO_rep {p : Rho} {C : Nat → Nat → Value → Prop} {w : World} {d : D} {v : Value} {x : Bool × Cs} (h : RepD p C w d v) (hd : toTupO d = some x) : RepT p C w x v := by
  unfold toTupO at hd
  split at hd
  · cases hd
    refine ⟨rfl, fun i y u hy hu => ?_⟩
    cases i with
    | zero => simp [Cs.d0] at hy hu; subst hy; subst hu; exact h
    | succ i => simp [Cs.d0] at hy
  · cases hd
    refine ⟨rfl, fun i y u hy hu => ?_⟩
    cases i with
    | zero => simp [Cs.d0] at hy hu; subst hy; subst hu; exact h
    | succ i => simp [Cs.d0] at hy
  · cases hd
    exact h
  · cases hd
theorem tupOs_rep {p : Rho} {C : Nat → Nat → Value → Prop} {w : World} : ∀ {ds : List D} {xs : List (Bool × Cs)} {vs : List Value}, (ds.length = vs.length ∧ ∀ (i : Nat) d v, ds[i]? = some d → vs[i]? = some v → RepD p C w d v) → tupOs ds = some xs →
    xs.length = vs.length ∧ ∀ (i : Nat) x u, xs[i]? = some x → vs[i]? = some u → RepT p C w x u
  | [], _, vs, h, ht => by cases ht; exact ⟨h.1, fun i x u hx => nomatch hx⟩
  | d :: r, xs, [], h, ht => by have := h.1; simp at this
  | d :: r, xs, v :: vs, h, ht => by
    rw [tupOs] at ht
    split at ht
    · rename_i x xs' h1 h2
      cases ht
      have ih := tupOs_rep (ds := r) (vs := vs) ⟨by simpa using h.1, fun i d v hd hv => h.2 (i + 1) d v (by simpa using hd) (by simpa using hv)⟩ h2
      refine ⟨by simp [ih.1], fun i y u hy hu => ?_⟩
      cases i with
      | zero => simp at hy hu; subst hy; subst hu; exact toTupO_rep (h.2 0 d v rfl rfl) h1
      | succ i => exact ih.2 i y u (by simpa using hy) (by simpa using hu)
    · cases ht
theorem joinO_rep {p : Rho} {C : Nat → Nat → Value → Prop} {w : World} {ds : List D} {d : D} {vs : List Value} (h : ds.length = vs.length ∧ ∀ (i : Nat) d v, ds[i]? = some d → vs[i]? = some v → RepD p C w d v) (hd : joinO ds = some d) : RepD p C w d (if h : vs.toArray.size = 1 then vs.toArray[0] else .tuple vs.toArray) := by
  unfold joinO at hd
  split at hd
  · rename_i d'
    cases hd
    obtain ⟨v, rfl⟩ := List.length_eq_one_iff.1 h.1.symm
    exact h.2 0 d v rfl rfl
  · rename_i hne
    split at hd
    · rename_i xs hx
      cases hd
      have h1 : ¬ vs.length = 1 := fun h1 => by
        obtain ⟨d', rfl⟩ := List.length_eq_one_iff.1 (h.1.trans h1)
        exact hne d' rfl
      rw [dif_neg (by simpa using h1)]
      obtain ⟨k1, k2⟩ := tupOs_rep h hx
      exact ⟨vs, rfl, k1, k2⟩
    · cases hd

/-- a function's body ends well: its results are r, with the blocks ms -/
def EndsO (T : Nat → Option TI) (rs : List ResultVar) (r : D) (ms : List (Nat × Blk)) (e : Exit) (s : St) : Prop :=
  (e = .normal ∨ e = .ret) ∧ ∃ φ ds d, (bif rs.all resOk then resL T s rs else none) = some (φ, ds) ∧ φ ∧ joinO ds = some d ∧ ∀ X, Le X ⟨fun t => bif Nat.beq t 0 then d else .any, s.mem⟩ (St.of [(0, r)] ms)

section
variable {P : Program} {T : Nat → Option TI} {X : Ctx}
theorem fn_introO (hT : TOk P T) {f : Nat} {fn : Func} {c : Code} (hf : P.funcs[f]? = some fn) (hb : fn.body = some c) (hname : (fn.name == "runtime.NumGoroutine") = false) {gs : List (Nat × List E)} {args : List D} {r : D} {ms : List (Nat × Blk)} (hn : args.length ≤ fn.ntmps)
    (h : ∀ X : Ctx, X.nt = fn.ntmps → Tr P X c (St.startG gs args) (EndsO T fn.results.toList r ms)) (hbig : Nat.ble fn.ntmps 900000 = true := by rfl) : FnO P f gs args r ms := by
  refine ⟨⟨fn, c, hf, hb, hname⟩, fun w vs I hgs hargs => ?_⟩
  have hlen : args.length = vs.size := by simpa using hargs.1
  let X : Ctx := ⟨w, I, fn.ntmps, Nat.le_of_ble_eq_true hbig, fun _ => False, fun _ => 0⟩
  refine calls_of_wp hf hb (wp_mono (h X rfl _ w ⟨fun _ => none, ⟨Bel.refl _, fun id blk hb => nomatch hb⟩, by show (vs ++ Array.replicate (fn.ntmps - vs.size) undef).size = fn.ntmps; simp; omega, rfl, fun t => ?_⟩) fun e a w' ⟨s', hE, hR⟩ => ?_)
  · show RepD p0 _ w (bif Nat.ble 1000000 t then getG gs (t - 1000000) else getArg args t) _
    cases hbt : Nat.ble 1000000 t with
    | true =>
      have e : slotV X.xg (vs ++ Array.replicate (fn.ntmps - vs.size) undef) t = .pointer (some ⟨t - 1000000, 0, none⟩) := by
        unfold slotV
        rw [hbt]
        rfl
      rw [e]
      exact getG_rep (fun x hx => (hgs x hx).p0_own fun b o u h => ⟨h.1, fun _ => h.2, fun _ id blk hb => nomatch hb⟩) _
    | false =>
    rw [cond_false, getArg_get]
    cases hd : args[t]? with
    | none => trivial
    | some d =>
      have ht : t < vs.size := by rw [← hlen]; exact (List.getElem?_eq_some_iff.1 hd).1
      have hv : slotV X.xg (vs ++ Array.replicate (fn.ntmps - vs.size) undef) t = vs[t] := by
        have := Nat.le_of_ble_eq_true hbig
        rw [slotV_lt (by omega), Array.getD_eq_getD_getElem?, Array.getElem?_append_left ht, Array.getElem?_eq_getElem ht]
        rfl
      simp only [Option.getD_some]
      rw [hv]
      refine (hargs.2 t d vs[t] hd (by simp [ht])).p0_own fun b o u h => ⟨h.1, fun _ => h.2, fun _ id blk hb => nomatch hb⟩
  · obtain ⟨hend, φ, ds, d, h1, hφ, hj, hle⟩ := hE
    obtain ⟨μ, hM, hsz, hdf, hr⟩ := hR
    cases hro : fn.results.toList.all resOk with
    | false => rw [hro] at h1; cases h1
    | true =>
    rw [hro] at h1
    obtain ⟨us', k1, k2, k3⟩ := resL_run hT hM hr (fun x hx => List.all_eq_true.1 hro x hx) h1 hφ
    have hd := joinO_rep ⟨k2, k3⟩ hj
    have hrun : (results fn a.tmps).run P w' = .ok (if h : us'.toArray.size = 1 then us'.toArray[0] else .tuple us'.toArray) w' := by
      have he : results fn a.tmps = (do let vs ← fn.results.mapM (resF a.tmps); pure (if h : vs.size = 1 then vs[0] else .tuple vs) : Sem Value) := rfl
      rw [he, Sem.run_bind, Array.mapM_eq_mapM_toList, Sem.run_map, k1]
      rfl
    generalize (if h : us'.toArray.size = 1 then us'.toArray[0] else .tuple us'.toArray) = v at hd hrun
    obtain ⟨μ', hM', _, _, hr'⟩ := hle (X0 w I) { a with tmps := #[v] } w' ⟨μ, ⟨hM.bel, hM.blk⟩, rfl, hdf, fun t => by
      cases ht : Nat.beq t 0 with
      | true =>
        obtain rfl := Nat.eq_of_beq_eq_true ht
        exact hd
      | false =>
        show RepD _ _ _ (bif Nat.beq t 0 then d else .any) _
        rw [ht]
        trivial⟩
    have hfin : bodyPost P fn (fun e w'' => ∃ v, e = .returned v ∧ ∃ μ : Nat → Option Nat, RM (X0 w I) ⟨lookM ms, μ⟩ w'' ∧ RepD ⟨lookM ms, μ⟩ (CW (X0 w I) ⟨lookM ms, μ⟩ w'') w'' r v) .normal a w' :=
      ⟨hdf, _, hrun, v, rfl, μ', hM', hr' 0⟩
    rcases hend with rfl | rfl
    · exact hfin
    · exact hfin
end

/-! ### calls -/
def nv (m : Mem) (id : Nat) : Nat := match m id with | some b => b.ver + 1 | none => 0
def D0.ren (m : Mem) (base : Nat) : D0 → Option D0
  | .e x => some (.e x)
  | .nil => some .nil
  | .own i v => some (.own (base + i) (v + nv m (base + i)))
  | _ => none
def renL (m : Mem) (base : Nat) : List D0 → Option (List D0)
  | [] => some []
  | x :: r => match x.ren m base, renL m base r with
    | some y, some ys => some (y :: ys)
    | _, _ => none
def Cs.ren (m : Mem) (base : Nat) : Cs → Option Cs
  | .es xs => some (.es xs)
  | .ds xs => match renL m base xs with
    | some ys => some (.ds ys)
    | none => none
def renT (m : Mem) (base : Nat) : List (Bool × Cs) → Option (List (Bool × Cs))
  | [] => some []
  | (b, c) :: r => match c.ren m base, renT m base r with
    | some d, some ds => some ((b, d) :: ds)
    | _, _ => none
def D.ren (m : Mem) (base : Nat) : D → Option D
  | .one x => match x.ren m base with
    | some y => some (.one y)
    | none => none
  | .agg c => match c.ren m base with
    | some d => some (.agg d)
    | none => none
  | .tup xs => match renT m base xs with
    | some ys => some (.tup ys)
    | none => none
  | _ => none
/-- the blocks that came -/
def newB (ms : List (Nat × Blk)) (base id : Nat) : Option Blk := bif Nat.ble base id then lookM ms (id - base) else none
def memO (m : Mem) (ms : List (Nat × Blk)) (base : Nat) : Mem := fun id => match newB ms base id with
  | some b => some ⟨b.ver + nv m id, b.body, b.pub⟩
  | none => m id
theorem newB_add {ms : List (Nat × Blk)} {base i : Nat} : newB ms base (base + i) = lookM ms i := by
  unfold newB
  rw [show Nat.ble base (base + i) = true from Nat.ble_eq_true_of_le (Nat.le_add_right ..), cond_true, Nat.add_sub_cancel_left]
theorem newB_some {ms : List (Nat × Blk)} {base id : Nat} {b : Blk} (h : newB ms base id = some b) : ∃ i, id = base + i ∧ lookM ms i = some b := by
  unfold newB at h
  cases hb : Nat.ble base id with
  | false => rw [hb] at h; cases h
  | true =>
    rw [hb] at h
    have := Nat.le_of_ble_eq_true hb
    exact ⟨id - base, by omega, h⟩

section
variable {P : Program} {X : Ctx}
theorem renD_rep {p p' : Rho} {C C' : Nat → Nat → Value → Prop} {w : World} {m : Mem} {base : Nat} (hC : ∀ b o u, C b o u → C' b o u) (h : ∀ i b, p.mem i = some b → ∃ b', p'.mem (base + i) = some b' ∧ b'.ver = b.ver + nv m (base + i) ∧ b'.body = b.body ∧ p'.μ (base + i) = p.μ i) {r r' : D} {v : Value} (hr : r.ren m base = some r') (hv : RepD p C w r v) : RepD p' C' w r' v := by
  have h0 : ∀ (x y : D0) (v : Value), x.ren m base = some y → Rep0 p C w x v → Rep0 p' C' w y v := by
    intro x y v hx hv
    unfold D0.ren at hx
    split at hx
    · cases hx; exact RepE.mono hC hv
    · cases hx; exact hv
    · rename_i i ver
      cases hx
      obtain ⟨k0, blk, k1, k2, k3⟩ := hv
      obtain ⟨b', e1, e2, e3, e4⟩ := h i blk k1
      refine ⟨k0, b', e1, by omega, fun e => ?_⟩
      obtain ⟨z, n, z1, z2, z3⟩ := k3 (by omega)
      refine ⟨z, n, by rw [e3]; exact z1, z2, ?_⟩
      rcases z3 with z3 | ⟨g, cap, g1, g2⟩
      · exact .inl z3
      · exact .inr ⟨g, cap, by rw [e4]; exact g1, g2⟩
    · cases hx
  have hl : ∀ (xs ys : List D0) (vs : List Value), renL m base xs = some ys → Rep2 p C w xs vs → Rep2 p' C' w ys vs := by
    intro xs
    induction xs with
    | nil => intro ys vs hx hv; cases hx; exact ⟨hv.1, fun i x u hx => nomatch hx⟩
    | cons x xs ih =>
      intro ys vs hx hv
      rw [renL] at hx
      split at hx
      · rename_i y ys' h1 h2
        cases hx
        cases vs with
        | nil => have := hv.1; simp at this
        | cons v vs =>
          have := ih ys' vs h2 ⟨by simpa using hv.1, fun i x u hx hu => hv.2 (i + 1) x u (by simpa using hx) (by simpa using hu)⟩
          refine ⟨by simp [this.1], fun i x' u hx hu => ?_⟩
          cases i with
          | zero => simp at hx hu; subst hx; subst hu; exact h0 _ _ _ h1 (hv.2 0 _ _ rfl rfl)
          | succ i => exact this.2 i x' u (by simpa using hx) (by simpa using hu)
      · cases hx
  have hc : ∀ (c d : Cs) (vs : List Value), c.ren m base = some d → Rep2 p C w c.d0 vs → Rep2 p' C' w d.d0 vs := by
    intro c d vs hx hv
    unfold Cs.ren at hx
    split at hx
    · cases hx
      exact ⟨hv.1, fun i x u hx hu => by
        have h1 := hv.2 i x u hx hu
        simp only [Cs.d0, List.getElem?_map, Option.map_eq_some_iff] at hx
        obtain ⟨e, _, rfl⟩ := hx
        exact RepE.mono hC h1⟩
    · split at hx
      · rename_i h1
        cases hx
        exact hl _ _ _ h1 hv
      · cases hx
  have ht : ∀ (xs ys : List (Bool × Cs)) (vs : List Value), renT m base xs = some ys → (xs.length = vs.length ∧ ∀ (i : Nat) x u, xs[i]? = some x → vs[i]? = some u → RepT p C w x u) → ys.length = vs.length ∧ ∀ (i : Nat) x u, ys[i]? = some x → vs[i]? = some u → RepT p' C' w x u := by
    intro xs
    induction xs with
    | nil => intro ys vs hx hv; cases hx; exact ⟨hv.1, fun i x u hx => nomatch hx⟩
    | cons x xs ih =>
      obtain ⟨b, c⟩ := x
      intro ys vs hx hv
      rw [renT] at hx
      split at hx
      · rename_i y ys' h1 h2
        cases hx
        cases vs with
        | nil => have := hv.1; simp at this
        | cons v vs =>
          have := ih ys' vs h2 ⟨by simpa using hv.1, fun i x u hx hu => hv.2 (i + 1) x u (by simpa using hx) (by simpa using hu)⟩
          refine ⟨by simp [this.1], fun i x' u hx hu => ?_⟩
          cases i with
          | zero =>
            simp at hx hu
            subst hx
            subst hu
            have hT := hv.2 0 _ _ rfl rfl
            cases b with
            | true => obtain ⟨vs', rfl, h3⟩ := hT; exact ⟨vs', rfl, hc _ _ _ h1 h3⟩
            | false => exact hc _ _ _ h1 hT
          | succ i => exact this.2 i x' u (by simpa using hx) (by simpa using hu)
      · cases hx
  unfold D.ren at hr
  split at hr
  · split at hr
    · rename_i h1
      cases hr
      exact h0 _ _ _ h1 hv
    · cases hr
  · split at hr
    · rename_i h1
      cases hr
      obtain ⟨vs, rfl, h2⟩ := hv
      exact ⟨vs, rfl, hc _ _ _ h1 h2⟩
    · cases hr
  · split at hr
    · rename_i h1
      cases hr
      obtain ⟨vs, rfl, h2⟩ := hv
      exact ⟨vs, rfl, ht _ _ _ h1 h2⟩
    · cases hr
  · cases hr

theorem lookM_isE : ∀ {l : List (Nat × Blk)}, (∀ x ∈ l, x.2.isE = true) → ∀ i b, lookM l i = some b → b.isE = true
  | [], _, i, b, h => by cases h
  | (k, c) :: l, hl, i, b, h => by
    rw [lookM] at h
    cases hk : Nat.beq i k with
    | true => rw [hk] at h; cases h; exact hl (k, c) (List.mem_cons_self ..)
    | false => rw [hk] at h; exact lookM_isE (fun x hx => hl x (List.mem_cons_of_mem _ hx)) i b h
/-- own blocks that a call made, taken over -/
theorem RM.adopt {M : Mem} {μ μf : Nat → Option Nat} {w w' : World} {ms : List (Nat × Blk)} {base : Nat} {I : Nat → Nat → Prop} (h1 : RM X ⟨M, μ⟩ w) (h2 : RM (X0 w I) ⟨lookM ms, μf⟩ w') (hms : ms.all (fun x => x.2.isE) = true)
    (hI : ∀ b o, I b o → (¬ X.own b → X.I b o) ∧ (X.own b → ∀ id blk, M id = some blk → μ id = some b → o < blk.pub)) :
    ∃ μ', RM X ⟨memO M ms base, μ'⟩ w' ∧ Kept ⟨M, μ⟩ (CW X ⟨M, μ⟩ w) w ⟨memO M ms base, μ'⟩ (CW X ⟨memO M ms base, μ'⟩ w') w' ∧
      (∀ b o u, CW (X0 w I) ⟨lookM ms, μf⟩ w' b o u → CW X ⟨memO M ms base, μ'⟩ w' b o u) ∧ ∀ i b, lookM ms i = some b → ∃ b', memO M ms base (base + i) = some b' ∧ b'.ver = b.ver + nv M (base + i) ∧ b'.body = b.body ∧ μ' (base + i) = μf i := by
  have hb : Below w.heap.size w w' := h2.bel.toBelow (fun _ h => h)
  have hE : ∀ i b, lookM ms i = some b → b.isE = true := fun i b => lookM_isE (fun x hx => List.all_eq_true.1 hms x hx) i b
  have F1 : ∀ id blk g, M id = some blk → μ id = some g → g < w.heap.size := fun id blk g m1 m2 => by
    have := h1.blk id blk m1
    simp only [BlkOk, m2] at this
    obtain ⟨_, _, _, _, cur, e, lo, hi, g4, _⟩ := this
    exact (Array.getElem?_eq_some_iff.1 g4).1
  have F2 : ∀ i blk g, lookM ms i = some blk → μf i = some g → w.heap.size ≤ g := fun i blk g m1 m2 => by
    have := h2.blk i blk m1
    simp only [BlkOk, m2] at this
    exact this.2.1.elim id fun h => h.elim
  let μ' : Nat → Option Nat := fun id => match newB ms base id with
    | some _ => μf (id - base)
    | none => μ id
  have mO : ∀ id b, newB ms base id = some b → memO M ms base id = some ⟨b.ver + nv M id, b.body, b.pub⟩ ∧ μ' id = μf (id - base) := fun id b h => by
    refine ⟨?_, ?_⟩
    · unfold memO
      rw [h]
    · show (match newB ms base id with | some _ => μf (id - base) | none => μ id) = _
      rw [h]
  have mN : ∀ id, newB ms base id = none → memO M ms base id = M id ∧ μ' id = μ id := fun id h => by
    refine ⟨?_, ?_⟩
    · unfold memO
      rw [h]
    · show (match newB ms base id with | some _ => μf (id - base) | none => μ id) = _
      rw [h]
  have back : ∀ id blk g, memO M ms base id = some blk → μ' id = some g → (∃ i b, id = base + i ∧ lookM ms i = some b ∧ μf i = some g ∧ blk = ⟨b.ver + nv M id, b.body, b.pub⟩) ∨ (newB ms base id = none ∧ M id = some blk ∧ μ id = some g) := fun id blk g m1 m2 => by
    cases hn : newB ms base id with
    | none =>
      obtain ⟨e1, e2⟩ := mN id hn
      rw [e1] at m1
      rw [e2] at m2
      exact .inr ⟨rfl, m1, m2⟩
    | some b =>
      obtain ⟨e1, e2⟩ := mO id b hn
      obtain ⟨i, rfl, hi⟩ := newB_some hn
      rw [e1] at m1
      rw [e2, Nat.add_sub_cancel_left] at m2
      cases m1
      exact .inl ⟨i, b, rfl, hi, m2, rfl⟩
  let p : Rho := ⟨M, μ⟩
  let p' : Rho := ⟨memO M ms base, μ'⟩
  have hC : ∀ b o u, CW X p w b o u → CW X p' w' b o u := fun b o u ⟨k1, k2, k3⟩ => by
    have hlt := cell_lt k1
    refine ⟨by rw [hb.cell (p := ⟨b, o, none⟩) hlt]; exact k1, k2, fun hle id blk m1 m2 => ?_⟩
    rcases back id blk b m1 m2 with ⟨i, b', _, q1, q2, _⟩ | ⟨_, q1, q2⟩
    · exact absurd (F2 i b' b q1 q2) (Nat.not_le.2 hlt)
    · exact k3 hle id blk q1 q2
  have hK : Kept p (CW X p w) w p' (CW X p' w') w' :=
    Kept.of hC (fun g n ⟨cur, e, fr, z1, z2⟩ => ⟨cur, e, fr, by rw [hb.block _ (Array.getElem?_eq_some_iff.1 z1).1]; exact z1, z2⟩) (fun id blk hm => by
      have hm : M id = some blk := hm
      cases hn : newB ms base id with
      | none =>
        obtain ⟨e1, e2⟩ := mN id hn
        exact ⟨blk, e1.trans hm, Nat.le_refl _, fun _ => ⟨e2, rfl⟩⟩
      | some b =>
        obtain ⟨e1, e2⟩ := mO id b hn
        have hv : nv M id = blk.ver + 1 := by
          unfold nv
          rw [hm]
        exact ⟨_, e1, by show blk.ver ≤ b.ver + nv M id; omega, fun e => by
          have e : blk.ver = b.ver + nv M id := e
          omega⟩)
  have hX : ∀ b o u, CW (X0 w I) ⟨lookM ms, μf⟩ w' b o u → CW X p' w' b o u := fun b o u ⟨k1, k2, k3⟩ => by
    have k2 : b < w.heap.size → I b o := fun h => k2 fun q => q.elim (fun q => Nat.not_lt.2 q h) id
    have k3 : w.heap.size ≤ b → ∀ id blk, lookM ms id = some blk → μf id = some b → o < blk.pub := fun h => k3 (.inl h)
    refine ⟨k1, fun hno => (hI b o (k2 (Nat.lt_of_not_le fun q => hno (.inl (Nat.le_trans h1.bel.size q))))).1 hno, fun hle id blk m1 m2 => ?_⟩
    rcases back id blk b m1 m2 with ⟨i, b', _, q1, q2, rfl⟩ | ⟨_, q1, q2⟩
    · exact k3 (F2 i b' b q1 q2) i b' q1 q2
    · exact (hI b o (k2 (F1 id blk b q1 q2))).2 hle id blk q1 q2
  refine ⟨μ', ⟨h1.bel.below hb, fun id blk hbk => ?_⟩, hK, hX, fun i b hi => ?_⟩
  · have hbk : memO M ms base id = some blk := hbk
    cases hn : newB ms base id with
    | none =>
      obtain ⟨e1, e2⟩ := mN id hn
      rw [e1] at hbk
      have := h1.blk id blk hbk
      unfold BlkOk at this ⊢
      show match μ' id with | none => _ | some g => _
      rw [e2]
      split
      · rename_i hg; simpa [hg] using this
      · rename_i g hg
        simp only [hg] at this
        obtain ⟨g0, g1, g2, g3, cur, e, lo, hi, g4, g5, g6, g7⟩ := this
        refine ⟨g0, g1, fun id' blk' m1 m2 => ?_, g3, cur, e, lo, hi, by rw [hb.block _ (Array.getElem?_eq_some_iff.1 g4).1]; exact g4, g5, g6, fun i x hx => ?_⟩
        · rcases back id' blk' g m1 m2 with ⟨i, b', _, q1, q2, _⟩ | ⟨_, q1, q2⟩
          · exact absurd (F2 i b' g q1 q2) (Nat.not_le.2 (Array.getElem?_eq_some_iff.1 g4).1)
          · exact g2 id' blk' q1 q2
        · obtain ⟨u, u1, u2⟩ := g7 i x hx
          exact ⟨u, u1, u2.kept hK⟩
    | some b =>
      obtain ⟨e1, e2⟩ := mO id b hn
      obtain ⟨i, rfl, hi⟩ := newB_some hn
      rw [Nat.add_sub_cancel_left] at e2
      rw [e1] at hbk
      cases hbk
      have := h2.blk i b hi
      unfold BlkOk at this ⊢
      show match μ' (base + i) with | none => _ | some g => _
      rw [e2]
      split
      · rename_i hg
        simp only [hg] at this
        exact this
      · rename_i g hg
        simp only [hg] at this
        obtain ⟨g0, g1, g2, g3, cur, e, lo, hi', g4, g5, g6, g7⟩ := this
        have g1 : w.heap.size ≤ g := g1.elim id fun h => h.elim
        refine ⟨g0, .inl (Nat.le_trans h1.bel.size g1), fun id' blk' m1 m2 => ?_, g3, cur, e, lo, hi', g4, g5, g6, fun j x hx => ?_⟩
        · rcases back id' blk' g m1 m2 with ⟨k, b', rfl, q1, q2, _⟩ | ⟨_, q1, q2⟩
          · rw [g2 k b' q1 q2]
          · exact absurd g1 (Nat.not_le.2 (F1 id' blk' g q1 q2))
        · obtain ⟨u, u1, u2⟩ := g7 j x hx
          obtain ⟨e', rfl⟩ := Blk.isE_cells (hE i b hi) x (List.mem_of_getElem? hx)
          exact ⟨u, u1, RepE.mono hX u2⟩
  · obtain ⟨e1, e2⟩ := mO (base + i) b (newB_add.trans hi)
    rw [Nat.add_sub_cancel_left] at e2
    exact ⟨_, e1, rfl, rfl, e2⟩

/-- a call of a function that hands out rows of its own -/
theorem opT_callO {gs : List (Nat × List E)} {ops : Array Oper} {s : St} {o : Oper} {fo : Operand} {f t base : Nat} {args : Array Operand} {ts : Array TypeId} (hop : o.op = .call ⟨.value fo, args, ts⟩) (hgd : gdOf ops s o = .free) (hfo : (s.ev fo).strip = .one (.clo f [])) {as : List D} {us : Upds} {r r' : D} {ms : List (Nat × Blk)}
    (has : dataL s.mem (args.toList.map fun x => (s.ev x).strip) = some (as, us)) (hn : ∀ p ∈ needL s (fo :: args.toList), p) (hgl : ∀ x ∈ gs, s.tm (1000000 + x.1) = .one (.eptr x.2)) (hfn : FnO P f gs as r ms) (hms : ms.all (fun x => x.2.isE) = true) (hren : r.ren (appU s.mem us) base = some r') (hdst : o.dst = some t) (hd : Nat.blt t X.nt = true) : OpT P X ops o s ⟨upd s.tm t r', memO (appU s.mem us) ms base⟩ := by
  intro Q a w ⟨μ, hM, hsz, hdf, hr⟩
  rw [if_pos (gd_free hgd a)]
  obtain ⟨⟨fn, c, k1, k2, k3⟩, hfn⟩ := hfn
  obtain ⟨r1, r2, r3, r4⟩ := RM.pubs us s.mem hM (dataL_ok has)
  have hrep := dataL_rep (vs := (args.map a.eval).toList) r1 ⟨by simp, fun i d v hd hv => by
    simp only [List.getElem?_map, Array.toList_map, Option.map_eq_some_iff] at hd hv
    obtain ⟨x, hx, rfl⟩ := hd
    obtain ⟨y, hy, rfl⟩ := hv
    rw [hx] at hy
    cases hy
    exact (strip_rep (ev_rep hr x) (needs_all hn x (List.mem_cons_of_mem _ (List.mem_of_getElem? hx)))).kept r2⟩ has r3
  have hf := strip_rep (ev_rep hr fo) (needs_all hn fo (List.mem_cons_self ..))
  rw [hfo] at hf
  obtain ⟨vs0, hfv, hl0, _⟩ := hf
  have hvs0 : vs0 = [] := List.eq_nil_of_length_eq_zero (by simpa using hl0.symm)
  subst hvs0
  have hcall : (execOp a.eval o).run P w = .ok (.enter f (args.map a.eval)) w := by
    have hb : fn.body.isNone = false := by rw [k2]; rfl
    have hne : ¬ (fn.name = "runtime.NumGoroutine") := by simpa using k3
    simp [execOp, hop, resolve, hfv, Deferred.ofValue, invoke, callFunc, k1, hne, k2]
  unfold Oper.wp
  rw [hcall, Oper.upon_enter]
  let I : Nat → Nat → Prop := fun b o => (¬ X.own b → X.I b o) ∧ (X.own b → ∀ id blk, appU s.mem us id = some blk → μ id = some b → o < blk.pub)
  refine (hfn w (args.map a.eval) I (fun x hx => by
    have h1 := hr (1000000 + x.1)
    rw [hgl x hx, slotV_glob] at h1
    exact eptr_mono (fun b o u h => ⟨h.1, h.2⟩) (h1.kept r2)) ⟨hrep.1, fun i d v hd hv => (hrep.2 i d v hd hv).kept (p0_kept fun b o u h => ⟨h.1, h.2⟩)⟩).mono ?_
  rintro e w' ⟨v, rfl, μf, hMf, hv⟩
  obtain ⟨μ', q1, q2, q3, q4⟩ := RM.adopt (base := base) r1 hMf hms (fun b o h => h)
  have hv' := renD_rep (p := ⟨lookM ms, μf⟩) (p' := ⟨memO (appU s.mem us) ms base, μ'⟩) q3 q4 hren hv
  refine ⟨μ', q1, by rw [hdst]; simp [Act.put, hsz], by rw [hdst]; exact hdf, ?_⟩
  have := put_rep (dst := some t) hr (r2.trans q2) hv' hsz hd []
  rw [hdst]
  exact this
/-- the same in a plain region -/
theorem callO {gs : List (Nat × List E)} {nt : Nat} {ops : Array Oper} {o : Oper} {rest : List Oper} {tm : Nat → D} {m : Mem} {fo : Operand} {f t base : Nat} {args : Array Operand} {ts : Array TypeId} {as : List D} {us : Upds} {r r' : D} {ms : List (Nat × Blk)} {s'' : St} (hop : o.op = .call ⟨.value fo, args, ts⟩) (hgd : gdOf ops ⟨tm, m⟩ o = .free) (hfo : ((⟨tm, m⟩ : St).ev fo).strip = .one (.clo f []))
    (has : dataL m (args.toList.map fun x => ((⟨tm, m⟩ : St).ev x).strip) = some (as, us)) (hn : needL ⟨tm, m⟩ (fo :: args.toList) = []) (hd : o.dst = some t) (hlt : Nat.blt t nt = true) (hnt : X.nt = nt) (hgl : gs.map (fun x => tm (1000000 + x.1)) = gs.map fun x => .one (.eptr x.2)) (hms : ms.all (fun x => x.2.isE) = true) (hfn : FnO P f gs as r ms) (hren : r.ren (updM m us) base = some r') (k : Lex P X ops rest ⟨upd tm t r', memO (updM m us) ms base⟩ s'') : Lex P X ops (o :: rest) ⟨tm, m⟩ s'' := by
  rw [updM_eq] at hren k
  exact .cons (opT_callO (us := us) hop hgd hfo has (fun p hp => by rw [hn] at hp; cases hp) (glob_of hgl) hfn hms hren hd (by rw [hnt]; exact hlt)) k
end
section
variable {P : Program} {X : Ctx}
/-- ways that meet: behind a the states are those of H -/
theorem tr_join {σ : Type} (H : σ → St) (J : σ → Prop) {a b : Code} {s : St} {Q : Exit → St → Prop} (h : Tr P X a s (fun | .normal, t => ∃ x, J x ∧ Le X t (H x) | e, t => Q e t)) (k : ∀ x, J x → Tr P X b (H x) Q) : Tr P X a s (andThen P X b Q) :=
  tr_mono h fun e t he => by
    cases e with
    | normal =>
      obtain ⟨x, hx, hle⟩ := he
      exact tr_le hle (k x hx)
    | _ => exact he
end

theorem repE_len {C : Nat → Nat → Value → Prop} {xs : List (List E)} {v : Value} (h : RepE C (.sl xs) v) : xs.length ≤ maxLen := by
  obtain ⟨A, n, cap, z, b, o, U, _, hn, hc, hm, _⟩ := repE_sl h
  omega
theorem repAs_len {C : Nat → Nat → Value → Prop} {w : World} {args : List D} {vs : List Value} (ha : RepAs C w args vs) {i : Nat} {xs : List (List E)} (h : args[i]? = some (.one (.e (.sl xs)))) : xs.length ≤ maxLen := by
  have hi : i < vs.length := by
    rw [← ha.1]
    exact (List.getElem?_eq_some_iff.1 h).1
  exact repE_len (ha.2 i _ _ h (List.getElem?_eq_getElem hi))
theorem FnD.len {P : Program} {f : Nat} {args : List D} {r : D} (hok : FnOk P f) (i : Nat) {xs : List (List E)} (h : args[i]? = some (.one (.e (.sl xs)))) (k : xs.length ≤ maxLen → FnD P f args r) : FnD P f args r :=
  ⟨hok, fun w vs I ha => (k (repAs_len ha h)).2 w vs I ha⟩
theorem FnG.len {P : Program} {f : Nat} {gs : List (Nat × List E)} {args : List D} {r : D} (hok : FnOk P f) (i : Nat) {xs : List (List E)} (h : args[i]? = some (.one (.e (.sl xs)))) (k : xs.length ≤ maxLen → FnG P f gs args r) : FnG P f gs args r :=
  ⟨hok, fun w vs I hg ha => (k (repAs_len ha h)).2 w vs I hg ha⟩
/-- fields of a struct that is given -/
theorem repAs_lenA {C : Nat → Nat → Value → Prop} {w : World} {args : List D} {vs : List Value} (ha : RepAs C w args vs) {i j : Nat} {es : List E} {xs : List (List E)} (h : args[i]? = some (.agg (.es es))) (hj : es[j]? = some (.sl xs)) : xs.length ≤ maxLen := by
  have hi : i < vs.length := by
    rw [← ha.1]
    exact (List.getElem?_eq_some_iff.1 h).1
  obtain ⟨us, _, hl, hu⟩ := ha.2 i _ _ h (List.getElem?_eq_getElem hi)
  have hd : (Cs.es es).d0[j]? = some (.e (.sl xs)) := by simp [Cs.d0, hj]
  have hju : j < us.length := by
    rw [← hl]
    exact (List.getElem?_eq_some_iff.1 hd).1
  exact repE_len (hu j _ _ hd (List.getElem?_eq_getElem hju))
theorem FnD.lenA {P : Program} {f : Nat} {args : List D} {r : D} (hok : FnOk P f) (i j : Nat) {es : List E} {xs : List (List E)} (h : args[i]? = some (.agg (.es es))) (hj : es[j]? = some (.sl xs)) (k : xs.length ≤ maxLen → FnD P f args r) : FnD P f args r :=
  ⟨hok, fun w vs I ha => (k (repAs_lenA ha h hj)).2 w vs I ha⟩
theorem FnG.lenA {P : Program} {f : Nat} {gs : List (Nat × List E)} {args : List D} {r : D} (hok : FnOk P f) (i j : Nat) {es : List E} {xs : List (List E)} (h : args[i]? = some (.agg (.es es))) (hj : es[j]? = some (.sl xs)) (k : xs.length ≤ maxLen → FnG P f gs args r) : FnG P f gs args r :=
  ⟨hok, fun w vs I hg ha => (k (repAs_lenA ha h hj)).2 w vs I hg ha⟩
end Go.Proofs.YtcjeeoimjkhijaaDoor.Ab
