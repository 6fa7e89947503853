/- Code, loops, calls: rules over abstract states. No condition. -/
import Derived.Test.YtcjeeoimjkhijaaDoorAb15
namespace Go.Proofs.YtcjeeoimjkhijaaDoor.Ab
open Go Go.RowKit

/-! ### regions in the order of the text -/
inductive Lex (P : Program) (X : Ctx) (ops : Array Oper) : List Oper → St → St → Prop
  | nil (s : St) : Lex P X ops [] s s
  | cons {o : Oper} {r : List Oper} {s s1 s2 : St} (h : OpT P X ops o s s1) (k : Lex P X ops r s1 s2) : Lex P X ops (o :: r) s s2

def isGo : Op → Bool
  | .call ⟨.value _, _, _⟩ => true
  | _ => false

/-- code: from an abstract state it ends as Q says -/
def Tr (P : Program) (X : Ctx) (c : Code) (s : St) (Q : Exit → St → Prop) : Prop :=
  ∀ (a : Act) (w : World), R X s a w → c.wp P (fun e a' w' => ∃ s', Q e s' ∧ R X s' a' w') a w

def Le (X : Ctx) (s s' : St) : Prop := ∀ (a : Act) (w : World), R X s a w → R X s' a w

section
variable {P : Program} {T : Nat → Option TI} {X : Ctx}

theorem lex_list {ops : Array Oper} {Q : Exit → Act → World → Prop} {l : List Oper} {s s' : St} (h : Lex P X ops l s s') (hQ : ∀ a w, R X s' a w → Q .normal a w) : ∀ a w, R X s a w → wpList P ops Q l a w := by
  induction h with
  | nil s => intro a w hR; exact hQ a w hR
  | cons h k ih =>
    intro a w hR
    refine wpList_step fun K hK => ?_
    have := h Q a w hR
    split
    · rename_i hw
      rw [if_pos hw] at this
      exact Oper.wp_mono (fun a w hr => hK a w (ih hQ a w hr)) this
    · rename_i hw
      rw [if_neg hw] at this
      exact hK _ _ (ih hQ _ _ this)

theorem tr_region {id : Nat} {ops : Array Oper} {s s' : St} {Q : Exit → St → Prop} (h : Lex P X ops ops.toList s s') (hQ : Q .normal s') : Tr P X (.region id ops false) s Q :=
  fun a w hR => wp_region_list (lex_list h (fun _ _ hR => ⟨s', hQ, hR⟩) a w hR)

theorem tr_mono {c : Code} {s : St} {Q Q' : Exit → St → Prop} (h : Tr P X c s Q) (hq : ∀ e s, Q e s → Q' e s) : Tr P X c s Q' :=
  fun a w hR => wp_mono (h a w hR) fun _ _ _ ⟨s', h1, h2⟩ => ⟨s', hq _ _ h1, h2⟩

theorem tr_skip {s : St} {Q : Exit → St → Prop} (h : Q .normal s) : Tr P X .skip s Q := fun _ _ hR => wp_skip ⟨s, h, hR⟩
theorem tr_ret {s : St} {Q : Exit → St → Prop} (h : Q .ret s) : Tr P X .ret s Q := fun _ _ hR => wp_ret ⟨s, h, hR⟩
theorem tr_exit {id : Nat} {s : St} {Q : Exit → St → Prop} (h : Q (.exit id) s) : Tr P X (.exit id) s Q := fun _ _ hR => wp_exit ⟨s, h, hR⟩

/-- what stands behind x -/
def andThen (P : Program) (X : Ctx) (y : Code) (Q : Exit → St → Prop) : Exit → St → Prop
  | .normal, s => Tr P X y s Q
  | e, s => Q e s
theorem tr_seq {x y : Code} {s : St} {Q : Exit → St → Prop} (h : Tr P X x s (andThen P X y Q)) : Tr P X (.seq x y) s Q :=
  fun a w hR => wp_seq (wp_mono (h a w hR) fun e a' w' ⟨s', h1, h2⟩ => by
    cases e <;> first | exact h1 a' w' h2 | exact ⟨s', h1, h2⟩)

def inBlk (id : Nat) (Q : Exit → St → Prop) : Exit → St → Prop
  | .exit id', s => if id' = id then Q .normal s else Q (.exit id') s
  | e, s => Q e s
theorem tr_block {id : Nat} {c : Code} {s : St} {Q : Exit → St → Prop} (h : Tr P X c s (inBlk id Q)) : Tr P X (.block id c) s Q :=
  fun a w hR => wp_block (wp_mono (h a w hR) fun e a' w' ⟨s', h1, h2⟩ => by
    cases e with
    | exit id' =>
      simp only [inBlk] at h1
      simp only [Exit.inBlock]
      split at h1
      · rename_i hi; rw [if_pos hi]; exact ⟨s', h1, h2⟩
      · rename_i hi; rw [if_neg hi]; exact ⟨s', h1, h2⟩
    | _ => exact ⟨s', h1, h2⟩)

theorem tr_cond {c : Operand} {x y : Code} {s : St} {Q : Exit → St → Prop} {b : Bool} (hc : s.ev c = .v (.bool b)) (ht : b = true → Tr P X x s Q) (hf : b = false → Tr P X y s Q) : Tr P X (.cond c x y) s Q := by
  intro a w hR
  obtain ⟨μ, hM, hsz, hdf, hr⟩ := hR
  have h1 := ev_rep hr c
  rw [hc] at h1
  have hv := repV h1
  exact wp_cond_split hv (fun e => ht e a w ⟨μ, hM, hsz, hdf, hr⟩) (fun e => hf e a w ⟨μ, hM, hsz, hdf, hr⟩)

theorem tr_le {c : Code} {s s' : St} {Q : Exit → St → Prop} (h : Le X s s') (k : Tr P X c s' Q) : Tr P X c s Q := fun a w hR => k a w (h a w hR)

/-- a loop: H x are the states at its head; m goes down -/
theorem tr_loop {σ : Type} (H : σ → St) (J : σ → Prop) (m : σ → Nat) {c : Code} {s : St} {Q : Exit → St → Prop} (x0 : σ) (hs : Le X s (H x0)) (h0 : J x0)
    (round : ∀ x, J x → Tr P X c (H x) (fun | .normal, s' => ∃ x', J x' ∧ m x' < m x ∧ Le X s' (H x') | e, s' => Q e s')) : Tr P X (.loop c) s Q := by
  intro a w hR
  intro b k cs
  have key : ∀ n x a w, m x = n → J x → R X (H x) a w →
      ∃ e a' w', (∃ s', Q e s' ∧ R X s' a' w') ∧ Arrives P (lone (b.at a (.code c :: .inLoop c :: k)) cs w) b k cs e a' w' := by
    intro n
    induction n using Nat.strongRecOn with
    | _ n ih =>
      intro x a w hn hJ hRx
      obtain ⟨e, a₁, w₁, ⟨s1, hq, hR1⟩, harr⟩ := round x hJ a w hRx b (.inLoop c :: k) cs
      cases e with
      | normal =>
        obtain ⟨x', hJ', hlt, hle⟩ := hq
        obtain ⟨e₂, a₂, w₂, hq₂, harr₂⟩ := ih (m x') (hn ▸ hlt) x' a₁ w₁ rfl hJ' (hle _ _ hR1)
        exact ⟨e₂, a₂, w₂, hq₂, .of_steps (Steps.trans harr (.one step_inLoop)) harr₂⟩
      | exit id => exact ⟨_, a₁, w₁, ⟨s1, hq, hR1⟩, .pass (x := .inLoop c) rfl (fun _ _ => .inl (by simp)) harr⟩
      | goto l => exact ⟨_, a₁, w₁, ⟨s1, hq, hR1⟩, .pass (x := .inLoop c) rfl (fun _ _ => .inl (by simp)) harr⟩
      | ret => exact ⟨_, a₁, w₁, ⟨s1, hq, hR1⟩, .pass (x := .inLoop c) rfl (fun _ _ => .inl (by simp)) harr⟩
      | panic ch => exact ⟨_, a₁, w₁, ⟨s1, hq, hR1⟩, .pass (x := .inLoop c) rfl (fun _ _ => .inl (by simp)) harr⟩
      | outgrown => exact ⟨_, a₁, w₁, ⟨s1, hq, hR1⟩, .pass (x := .inLoop c) rfl (fun _ _ => .inl (by simp)) harr⟩
  obtain ⟨e, a', w', hq, harr⟩ := key _ x0 a w rfl h0 (hs _ _ hR)
  exact ⟨e, a', w', hq, .of_steps (.one step_loop) harr⟩

/-! ### functions -/
def p0 : Rho := ⟨fun _ => none, fun _ => none⟩
def CI (w : World) (I : Nat → Nat → Prop) (b o : Nat) (u : Value) : Prop := w.cell? ⟨b, o, none⟩ = some u ∧ I b o
def CI' (w w' : World) (I : Nat → Nat → Prop) (b o : Nat) (u : Value) : Prop := w'.cell? ⟨b, o, none⟩ = some u ∧ (I b o ∨ w.heap.size ≤ b)
def RepAs (C : Nat → Nat → Value → Prop) (w : World) (args : List D) (vs : List Value) : Prop :=
  args.length = vs.length ∧ ∀ (i : Nat) d v, args[i]? = some d → vs[i]? = some v → RepD p0 C w d v

def FnOk (P : Program) (f : Nat) : Prop := ∃ fn c, P.funcs[f]? = some fn ∧ fn.body = some c ∧ (fn.name == "runtime.NumGoroutine") = false

/-- function f, given data, answers data, and leaves all that was there alone -/
def FnD (P : Program) (f : Nat) (args : List D) (r : D) : Prop :=
  FnOk P f ∧ ∀ (w : World) (vs : Array Value) (I : Nat → Nat → Prop), RepAs (CI w I) w args vs.toList →
    Calls P f vs w fun e w' => ∃ v, e = .returned v ∧ Below w.heap.size w w' ∧ RepD p0 (CI' w w' I) w' r v

/-- data out of what a slot holds -/
def dataD (m : Mem) : D → Option (D × Upds)
  | .one (.clo f []) => some (.one (.clo f []), [])
  | .one (.ptr i v o) => match m i with
    | some ⟨bv, .box (.es cs), _⟩ => bif Nat.beq bv v then some (.one (.eptr (cs.drop o)), [(i, ⟨bv, .box (.es cs), (Body.box (.es cs)).cells.length⟩)]) else none
    | _ => none
  | .one x => match frz m x with
    | some (e, us) => some (.one (.e e), us)
    | none => none
  | .agg c => match frzC m c with
    | some (es, us) => some (.agg (.es es), us)
    | none => none
  | _ => none
def dataL (m : Mem) : List D → Option (List D × Upds)
  | [] => some ([], [])
  | d :: r => match dataD m d, dataL m r with
    | some (x, u), some (xs, us) => some (x :: xs, u ++ us)
    | _, _ => none

theorem dataD_ok {m : Mem} {d x : D} {us : Upds} (h : dataD m d = some (x, us)) : PubOk m us := by
  unfold dataD at h
  split at h
  · cases h; exact fun u hu => nomatch hu
  · rename_i id ver off
    split at h
    · rename_i bv cs pub hb
      cases hv : Nat.beq bv ver with
      | false => simp [hv] at h
      | true =>
        simp only [hv, cond_true, Option.some.injEq, Prod.mk.injEq] at h
        obtain ⟨rfl, rfl⟩ := h
        intro u hu
        simp at hu
        subst hu
        exact ⟨_, hb, rfl⟩
    · cases h
  · split at h
    · rename_i e us' hf; cases h; exact frz_ok hf
    · cases h
  · split at h
    · rename_i es us' hf; cases h; exact frzC_ok hf
    · cases h
  · cases h
theorem dataL_ok {m : Mem} : ∀ {ds xs : List D} {us : Upds}, dataL m ds = some (xs, us) → PubOk m us
  | [], _, _, h => by cases h; exact fun u hu => nomatch hu
  | d :: r, xs, us, h => by
    rw [dataL] at h
    split at h
    · rename_i x u xs' us' h1 h2
      cases h
      intro v hv
      rcases List.mem_append.1 hv with hv | hv
      · exact dataD_ok h1 v hv
      · exact dataL_ok h2 v hv
    · cases h

theorem dataD_rep {m m' : Mem} {μ : Nat → Option Nat} {w : World} (hR : RM X ⟨m', μ⟩ w) {d x : D} {us : Upds} {v : Value} (hv : RepD ⟨m', μ⟩ (CW X ⟨m', μ⟩ w) w d v) (h : dataD m d = some (x, us)) (hu : ∀ u ∈ us, m' u.1 = some u.2) : RepD p0 (CW X ⟨m', μ⟩ w) w x v := by
  unfold dataD at h
  split at h
  · cases h
    obtain ⟨vs, rfl, hl, _⟩ := hv
    exact ⟨vs, rfl, hl, fun i c u h => nomatch h⟩
  · rename_i id ver off
    split at h
    · rename_i bv cs pub hb
      cases hbv : Nat.beq bv ver with
      | false => simp [hbv] at h
      | true =>
        obtain rfl := Nat.eq_of_beq_eq_true hbv
        simp only [hbv, cond_true, Option.some.injEq, Prod.mk.injEq] at h
        obtain ⟨rfl, rfl⟩ := h
        exact ptr_data hR (hu (id, ⟨bv, .box (.es cs), (Body.box (.es cs)).cells.length⟩) (List.mem_singleton.2 rfl)) hv
    · cases h
  · split at h
    · rename_i e us' hf
      cases h
      exact frz_rep hR hv hf hu
    · cases h
  · split at h
    · rename_i es us' hf
      cases h
      obtain ⟨vs, rfl, hr⟩ := hv
      have := frzC_rep hR hr hf hu
      refine ⟨vs, rfl, this.1, fun i y u hy hu => ?_⟩
      have h1 := this.2 i y u hy hu
      simp only [Cs.d0, List.getElem?_map, Option.map_eq_some_iff] at hy
      obtain ⟨e, _, rfl⟩ := hy
      exact h1
    · cases h
  · cases h

theorem dataL_rep {m m' : Mem} {μ : Nat → Option Nat} {w : World} (hR : RM X ⟨m', μ⟩ w) : ∀ {ds xs : List D} {us : Upds} {vs : List Value}, (ds.length = vs.length ∧ ∀ (i : Nat) d v, ds[i]? = some d → vs[i]? = some v → RepD ⟨m', μ⟩ (CW X ⟨m', μ⟩ w) w d v) → dataL m ds = some (xs, us) → (∀ u ∈ us, m' u.1 = some u.2) →
    RepAs (CW X ⟨m', μ⟩ w) w xs vs
  | [], _, _, vs, hr, h, _ => by cases h; exact ⟨hr.1, fun i d v hd => nomatch hd⟩
  | d :: r, xs, us, [], hr, h, _ => by have := hr.1; simp at this
  | d :: r, xs, us, v :: vs, hr, h, hu => by
    rw [dataL] at h
    split at h
    · rename_i x u xs' us' h1 h2
      cases h
      have ih := dataL_rep hR (ds := r) (vs := vs) ⟨by simpa using hr.1, fun i d v hd hv => hr.2 (i + 1) d v (by simpa using hd) (by simpa using hv)⟩ h2 (fun u hu' => hu u (by simp [hu']))
      have h0 := dataD_rep hR (hr.2 0 d v rfl rfl) h1 (fun u hu' => hu u (by simp [hu']))
      refine ⟨by simp [ih.1], fun i y u hy hu => ?_⟩
      cases i with
      | zero => simp at hy hu; subst hy; subst hu; exact h0
      | succ i => exact ih.2 i y u (by simpa using hy) (by simpa using hu)
    · cases h

theorem p0_kept {p : Rho} {C C' : Nat → Nat → Value → Prop} {w : World} (h : ∀ b o u, C b o u → C' b o u) : Kept p0 C w p C' w :=
  ⟨h, fun id blk hb => nomatch hb⟩

/-- a call -/
theorem opT_call {ops : Array Oper} {s : St} {o : Oper} {fo : Operand} {f : Nat} {args : Array Operand} {ts : Array TypeId} (hop : o.op = .call ⟨.value fo, args, ts⟩) (hgd : gdOf ops s o = .free) (hfo : (s.ev fo).strip = .one (.clo f [])) {as : List D} {us : Upds} {r : D}
    (has : dataL s.mem (args.toList.map fun x => (s.ev x).strip) = some (as, us)) (hn : ∀ p ∈ needL s (fo :: args.toList), p) (hfn : FnD P f as r) (hd : dstOk X.nt o.dst = true) : OpT P X ops o s (s.app o.dst r us) := by
  intro Q a w ⟨μ, hM, hsz, hdf, hr⟩
  rw [if_pos (gd_free hgd a)]
  obtain ⟨⟨fn, c, k1, k2, k3⟩, hfn⟩ := hfn
  obtain ⟨r1, r2, r3, r4⟩ := RM.pubs us s.mem hM (dataL_ok has)
  have hrep := dataL_rep (vs := (args.map a.eval).toList) r1 ⟨by simp, fun i d v hd hv => by
    simp only [List.getElem?_map, Array.toList_map, Option.map_eq_some_iff] at hd hv
    obtain ⟨x, hx, rfl⟩ := hd
    obtain ⟨y, hy, rfl⟩ := hv
    rw [hx] at hy
    cases hy
    exact (strip_rep (ev_rep hr x) (needs_all hn x (List.mem_cons_of_mem _ (List.mem_of_getElem? hx)))).kept r2⟩ has r3
  have hf := strip_rep (ev_rep hr fo) (needs_all hn fo (List.mem_cons_self ..))
  rw [hfo] at hf
  obtain ⟨vs0, hfv, hl0, _⟩ := hf
  have hvs0 : vs0 = [] := List.eq_nil_of_length_eq_zero (by simpa using hl0.symm)
  subst hvs0
  have hcall : (execOp a.eval o).run P w = .ok (.enter f (args.map a.eval)) w := by
    have hb : fn.body.isNone = false := by rw [k2]; rfl
    have hne : ¬ (fn.name = "runtime.NumGoroutine") := by simpa using k3
    simp [execOp, hop, resolve, hfv, Deferred.ofValue, invoke, callFunc, k1, hne, k2]
  unfold Oper.wp
  rw [hcall, Oper.upon_enter]
  let I : Nat → Nat → Prop := fun b o => (¬ X.own b → X.I b o) ∧ (X.own b → ∀ id blk, appU s.mem us id = some blk → μ id = some b → o < blk.pub)
  refine (hfn w (args.map a.eval) I ⟨hrep.1, fun i d v hd hv => (hrep.2 i d v hd hv).kept (p0_kept fun b o u h => ⟨h.1, h.2⟩)⟩).mono ?_
  rintro e w' ⟨v, rfl, hbel, hv⟩
  obtain ⟨q1, q2⟩ := r1.call hbel
  have hv' : RepD ⟨appU s.mem us, μ⟩ (CW X ⟨appU s.mem us, μ⟩ w') w' r v := hv.kept (p0_kept fun b o u h => by
    obtain ⟨h1, h2⟩ := h
    rcases h2 with ⟨h2, h3⟩ | h2
    · exact ⟨h1, h2, h3⟩
    · refine ⟨h1, fun hno => absurd (.inl (Nat.le_trans r1.bel.size h2)) hno, fun _ id blk m1 m2 => ?_⟩
      have m2 : μ id = some b := m2
      have := r1.blk id blk m1
      simp only [BlkOk, m2] at this
      obtain ⟨_, _, _, _, cur, e, lo, hi, g4, _⟩ := this
      exact absurd (Nat.lt_of_lt_of_le (Array.getElem?_eq_some_iff.1 g4).1 h2) (Nat.lt_irrefl _))
  exact ⟨μ, q1, by cases o.dst <;> simp [Act.put, hsz], by cases o.dst <;> exact hdf, put_rep (us := us) hr (r2.trans q2) hv' hsz hd⟩

/-- function f has no body: the model answers at once -/
def FnE (P : Program) (f : Nat) (args : List D) (r : D) : Prop :=
  ∀ (w : World) (vs : Array Value) (C : Nat → Nat → Value → Prop), RepAs C w args vs.toList → ∃ v, (callFunc f vs).run P w = .ok (.value v) w ∧ RepD p0 C w r v
/-- a call of a function without a body, which the model does itself -/
theorem opT_ext {ops : Array Oper} {s : St} {o : Oper} {fo : Operand} {f : Nat} {args : Array Operand} {ts : Array TypeId} (hop : o.op = .call ⟨.value fo, args, ts⟩) (hgd : gdOf ops s o = .free) (hfo : (s.ev fo).strip = .one (.clo f [])) {as : List D} {us : Upds} {r : D}
    (has : dataL s.mem (args.toList.map fun x => (s.ev x).strip) = some (as, us)) (hn : ∀ p ∈ needL s (fo :: args.toList), p) (hfn : FnE P f as r) (hd : dstOk X.nt o.dst = true) : OpT P X ops o s (s.app o.dst r us) := by
  intro Q a w ⟨μ, hM, hsz, hdf, hr⟩
  rw [if_pos (gd_free hgd a)]
  obtain ⟨r1, r2, r3, r4⟩ := RM.pubs us s.mem hM (dataL_ok has)
  have hrep := dataL_rep (vs := (args.map a.eval).toList) r1 ⟨by simp, fun i d v hd hv => by
    simp only [List.getElem?_map, Array.toList_map, Option.map_eq_some_iff] at hd hv
    obtain ⟨x, hx, rfl⟩ := hd
    obtain ⟨y, hy, rfl⟩ := hv
    rw [hx] at hy
    cases hy
    exact (strip_rep (ev_rep hr x) (needs_all hn x (List.mem_cons_of_mem _ (List.mem_of_getElem? hx)))).kept r2⟩ has r3
  have hf := strip_rep (ev_rep hr fo) (needs_all hn fo (List.mem_cons_self ..))
  rw [hfo] at hf
  obtain ⟨vs0, hfv, hl0, _⟩ := hf
  have hvs0 : vs0 = [] := List.eq_nil_of_length_eq_zero (by simpa using hl0.symm)
  subst hvs0
  obtain ⟨v, hv1, hv2⟩ := hfn w (args.map a.eval) _ hrep
  have hcall : (execOp a.eval o).run P w = .ok (.value v) w := by
    simp only [execOp, hop, resolve, hfv, Deferred.ofValue, invoke]
    simpa using hv1
  unfold Oper.wp
  rw [hcall, Oper.upon_value]
  have hv' : RepD ⟨appU s.mem us, μ⟩ (CW X ⟨appU s.mem us, μ⟩ w) w r v := hv2.kept (p0_kept fun b o u h => h)
  exact ⟨μ, r1, by cases o.dst <;> simp [Act.put, hsz], by cases o.dst <;> exact hdf, put_rep (us := us) hr r2 hv' hsz hd⟩

/-- what a closure captured, as the function that it names is given it -/
def capD : List (Nat × Nat × Nat) → List D
  | [] => []
  | c :: r => .one (.ptr c.1 c.2.1 c.2.2) :: capD r
theorem dataL_cur {m : Mem} {caps : List (Nat × Nat × Nat)} : ∀ {l xs : List D} {us : Upds}, dataL m (l ++ capD caps) = some (xs, us) → ∀ c ∈ caps, ∃ b, m c.1 = some b ∧ b.ver = c.2.1
  | d :: l, xs, us, h => by
    rw [List.cons_append, dataL] at h
    split at h
    · rename_i h2
      exact dataL_cur h2
    · cases h
  | [], xs, us, h => by
    rw [List.nil_append] at h
    revert xs us
    induction caps with
    | nil => intro xs us h c hc; cases hc
    | cons c caps ih =>
      intro xs us h
      rw [capD, dataL] at h
      split at h
      · rename_i x u xs' us' h1 h2
        intro c' hc
        rcases List.mem_cons.1 hc with rfl | hc
        · unfold dataD at h1
          simp only at h1
          split at h1
          · rename_i bv cs pub hb
            cases hv : Nat.beq bv c'.2.1 with
            | false => simp [hv] at h1
            | true => exact ⟨_, hb, Nat.eq_of_beq_eq_true hv⟩
          · cases h1
        · exact ih (xs := xs') (us := us') h2 c' hc
      · cases h
/-- a call of a closure: what it captured comes behind its arguments -/
theorem opT_callC {ops : Array Oper} {s : St} {o : Oper} {fo : Operand} {f : Nat} {caps : List (Nat × Nat × Nat)} {args : Array Operand} {ts : Array TypeId} (hop : o.op = .call ⟨.value fo, args, ts⟩) (hgd : gdOf ops s o = .free) (hfo : (s.ev fo).strip = .one (.clo f caps)) {as : List D} {us : Upds} {r : D}
    (has : dataL s.mem ((args.toList.map fun x => (s.ev x).strip) ++ capD caps) = some (as, us)) (hn : ∀ p ∈ needL s (fo :: args.toList), p) (hfn : FnD P f as r) (hd : dstOk X.nt o.dst = true) : OpT P X ops o s (s.app o.dst r us) := by
  intro Q a w ⟨μ, hM, hsz, hdf, hr⟩
  rw [if_pos (gd_free hgd a)]
  obtain ⟨⟨fn, c, k1, k2, k3⟩, hfn⟩ := hfn
  obtain ⟨r1, r2, r3, r4⟩ := RM.pubs us s.mem hM (dataL_ok has)
  have hf := strip_rep (ev_rep hr fo) (needs_all hn fo (List.mem_cons_self ..))
  rw [hfo] at hf
  obtain ⟨vs0, hfv, hl0, hcap⟩ := hf
  have hcaps : ∀ (cs : List (Nat × Nat × Nat)) (us : List Value), (∀ c ∈ cs, ∃ b, s.mem c.1 = some b ∧ b.ver = c.2.1) → cs.length = us.length → (∀ (i : Nat) c u, cs[i]? = some c → us[i]? = some u → Live ⟨s.mem, μ⟩ c.1 c.2.1 fun g => u = .pointer (some ⟨g, c.2.2, none⟩)) → (capD cs).length = us.length ∧ ∀ (i : Nat) d u, (capD cs)[i]? = some d → us[i]? = some u → RepD ⟨s.mem, μ⟩ (CW X ⟨s.mem, μ⟩ w) w d u := by
    intro cs
    induction cs with
    | nil => intro us _ h _; exact ⟨h, fun i d u hd => nomatch hd⟩
    | cons c cs ih =>
      intro us h0 h1 h2
      cases us with
      | nil => cases h1
      | cons u us =>
        obtain ⟨k1, k2⟩ := ih us (fun c hc => h0 c (List.mem_cons_of_mem _ hc)) (by simpa using h1) (fun i c u hc hu => h2 (i + 1) c u (by simpa using hc) (by simpa using hu))
        refine ⟨by simp [capD, k1], fun i d v hd hv => ?_⟩
        cases i with
        | zero =>
          simp [capD] at hd hv
          subst hd
          subst hv
          have hlv := h2 0 c u rfl rfl
          refine ⟨?_, hlv⟩
          obtain ⟨b, e1, e2⟩ := h0 c (List.mem_cons_self ..)
          obtain ⟨blk, q1, q2, q3⟩ := hlv
          have q1 : s.mem c.1 = some blk := q1
          rw [e1] at q1
          cases q1
          obtain ⟨g, _, rfl⟩ := q3 e2.symm
          rfl
        | succ i => exact k2 i d v (by simpa [capD] using hd) (by simpa using hv)
  obtain ⟨z1, z2⟩ := hcaps caps vs0 (dataL_cur has) hl0 hcap
  have hrep := dataL_rep (vs := (args.map a.eval).toList ++ vs0) r1 ⟨by simp [z1], fun i d v hd hv => by
    by_cases hi : i < args.size
    · rw [List.getElem?_append_left (by simpa using hi)] at hd hv
      simp only [List.getElem?_map, Array.toList_map, Option.map_eq_some_iff] at hd hv
      obtain ⟨x, hx, rfl⟩ := hd
      obtain ⟨y, hy, rfl⟩ := hv
      rw [hx] at hy
      cases hy
      exact (strip_rep (ev_rep hr x) (needs_all hn x (List.mem_cons_of_mem _ (List.mem_of_getElem? hx)))).kept r2
    · rw [List.getElem?_append_right (by simpa using hi)] at hd hv
      simp only [List.length_map, Array.length_toList, Array.toList_map] at hd hv
      exact (z2 _ d v hd hv).kept r2⟩ has r3
  have hcall : (execOp a.eval o).run P w = .ok (.enter f (args.map a.eval ++ vs0.toArray)) w := by
    have hb : fn.body.isNone = false := by rw [k2]; rfl
    have hne : ¬ (fn.name = "runtime.NumGoroutine") := by simpa using k3
    simp [execOp, hop, resolve, hfv, Deferred.ofValue, invoke, callFunc, k1, hne, k2]
  unfold Oper.wp
  rw [hcall, Oper.upon_enter]
  have hl : (args.map a.eval ++ vs0.toArray).toList = (args.map a.eval).toList ++ vs0 := by simp
  let I : Nat → Nat → Prop := fun b o => (¬ X.own b → X.I b o) ∧ (X.own b → ∀ id blk, appU s.mem us id = some blk → μ id = some b → o < blk.pub)
  refine (hfn w (args.map a.eval ++ vs0.toArray) I (by rw [hl]; exact ⟨hrep.1, fun i d v hd hv => (hrep.2 i d v hd hv).kept (p0_kept fun b o u h => ⟨h.1, h.2⟩)⟩)).mono ?_
  rintro e w' ⟨v, rfl, hbel, hv⟩
  obtain ⟨q1, q2⟩ := r1.call hbel
  have hv' : RepD ⟨appU s.mem us, μ⟩ (CW X ⟨appU s.mem us, μ⟩ w') w' r v := hv.kept (p0_kept fun b o u h => by
    obtain ⟨h1, h2⟩ := h
    rcases h2 with ⟨h2, h3⟩ | h2
    · exact ⟨h1, h2, h3⟩
    · refine ⟨h1, fun hno => absurd (.inl (Nat.le_trans r1.bel.size h2)) hno, fun _ id blk m1 m2 => ?_⟩
      have m2 : μ id = some b := m2
      have := r1.blk id blk m1
      simp only [BlkOk, m2] at this
      obtain ⟨_, _, _, _, cur, e, lo, hi, g4, _⟩ := this
      exact absurd (Nat.lt_of_lt_of_le (Array.getElem?_eq_some_iff.1 g4).1 h2) (Nat.lt_irrefl _))
  exact ⟨μ, q1, by cases o.dst <;> simp [Act.put, hsz], by cases o.dst <;> exact hdf, put_rep (us := us) hr (r2.trans q2) hv' hsz hd⟩
theorem opT_callG {ops : Array Oper} {s : St} {o : Oper} {fo : Operand} {f : Nat} {args : Array Operand} {ts : Array TypeId} {q : Prop} (hop : o.op = .call ⟨.value fo, args, ts⟩) (hgd : gdOf ops s o = .iff q) (hfo : (s.ev fo).strip = .one (.clo f [])) {as : List D} {r : D}
    (has : dataL s.mem (args.toList.map fun x => (s.ev x).strip) = some (as, [])) (hn : q → ∀ p ∈ needL s (fo :: args.toList), p) (hfn : q → FnD P f as r) (hd : dstOk X.nt o.dst = true) : OpT P X ops o s (s.app o.dst (.gd q r) []) := by
  intro Q a w hR0
  have hR0' := hR0
  obtain ⟨μ, hM, hsz, hdf, hr⟩ := hR0
  have hiff := gd_iff hgd hr
  by_cases hq : q
  · rw [if_pos (hiff.2 hq)]
    have := opT_call (ops := ops) (o := { o with guard := none }) (us := []) hop (by unfold gdOf; rfl) hfo has (hn hq) (hfn hq) hd Q a w hR0'
    rw [if_pos (by simp [Region.wanted])] at this
    have hm : ∀ a' w', R X (s.app o.dst r []) a' w' → R X (s.app o.dst (.gd q r) []) a' w' := by
      rintro a' w' ⟨μ', hM', hsz', hdf', hr'⟩
      refine ⟨μ', hM', hsz', hdf', fun t => ?_⟩
      have := hr' t
      cases hdst : o.dst with
      | none => rw [hdst] at this; exact this
      | some t' =>
        rw [hdst] at this
        by_cases ht : t = t'
        · subst ht
          simp only [St.app, upd_same] at this ⊢
          exact ⟨fun _ => this, fun hn => absurd hq hn⟩
        · simp only [St.app, upd_ne _ _ ht] at this ⊢
          exact this
    exact Oper.wp_mono (P := P) (Q := Q) hm this
  · rw [if_neg (fun hw => hq (hiff.1 hw))]
    exact ⟨μ, hM, by cases o.dst <;> simp [Act.put, hsz], by cases o.dst <;> exact hdf, put_rep (d := .gd q r) (v := undef) hr Kept.rfl' ⟨fun h => absurd h hq, fun _ => rfl⟩ hsz hd []⟩
end
end Go.Proofs.YtcjeeoimjkhijaaDoor.Ab
