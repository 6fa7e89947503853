/- Functions that read variables of the package: what is asked of them; calls of them. No condition. -/
import Derived.Test.YtcjeeoimjkhijaaDoorAb21
namespace Go.Proofs.YtcjeeoimjkhijaaDoor.Ab
open Go Go.RowKit

/-- function f, given data, and given what some variables of the package hold, answers data, and leaves all that was there alone -/
def FnG (P : Program) (f : Nat) (gs : List (Nat × List E)) (args : List D) (r : D) : Prop :=
  FnOk P f ∧ ∀ (w : World) (vs : Array Value) (I : Nat → Nat → Prop), (∀ x ∈ gs, RepD p0 (CI w I) w (.one (.eptr x.2)) (.pointer (some ⟨x.1, 0, none⟩))) → RepAs (CI w I) w args vs.toList →
    Calls P f vs w fun e w' => ∃ v, e = .returned v ∧ Below w.heap.size w w' ∧ RepD p0 (CI' w w' I) w' r v
theorem FnD.toG {P : Program} {f : Nat} {gs : List (Nat × List E)} {args : List D} {r : D} (h : FnD P f args r) : FnG P f gs args r :=
  ⟨h.1, fun w vs I _ ha => h.2 w vs I ha⟩

theorem eptr_mono {p p' : Rho} {C C' : Nat → Nat → Value → Prop} {w w' : World} {es : List E} {v : Value} (h : ∀ b o u, C b o u → C' b o u) (hr : RepD p C w (.one (.eptr es)) v) : RepD p' C' w' (.one (.eptr es)) v := by
  obtain ⟨b, o, rfl, hx⟩ := hr
  refine ⟨b, o, rfl, fun j e he => ?_⟩
  obtain ⟨u, h1, h2⟩ := hx j e he
  exact ⟨u, h _ _ _ h1, h2.mono h⟩

section
variable {P : Program} {T : Nat → Option TI} {X : Ctx}
theorem opT_callV {gs : List (Nat × List E)} {ops : Array Oper} {s : St} {o : Oper} {fo : Operand} {f : Nat} {args : Array Operand} {ts : Array TypeId} (hop : o.op = .call ⟨.value fo, args, ts⟩) (hgd : gdOf ops s o = .free) (hfo : (s.ev fo).strip = .one (.clo f [])) {as : List D} {us : Upds} {r : D}
    (has : dataL s.mem (args.toList.map fun x => (s.ev x).strip) = some (as, us)) (hn : ∀ p ∈ needL s (fo :: args.toList), p) (hgl : ∀ x ∈ gs, s.tm (1000000 + x.1) = .one (.eptr x.2)) (hfn : FnG P f gs as r) (hd : dstOk X.nt o.dst = true) : OpT P X ops o s (s.app o.dst r us) := by
  intro Q a w ⟨μ, hM, hsz, hdf, hr⟩
  rw [if_pos (gd_free hgd a)]
  obtain ⟨⟨fn, c, k1, k2, k3⟩, hfn⟩ := hfn
  obtain ⟨r1, r2, r3, r4⟩ := RM.pubs us s.mem hM (dataL_ok has)
  have hrep := dataL_rep (vs := (args.map a.eval).toList) r1 ⟨by simp, fun i d v hd hv => by
    simp only [List.getElem?_map, Array.toList_map, Option.map_eq_some_iff] at hd hv
    obtain ⟨x, hx, rfl⟩ := hd
    obtain ⟨y, hy, rfl⟩ := hv
    rw [hx] at hy
    cases hy
    exact (strip_rep (ev_rep hr x) (needs_all hn x (List.mem_cons_of_mem _ (List.mem_of_getElem? hx)))).kept r2⟩ has r3
  have hf := strip_rep (ev_rep hr fo) (needs_all hn fo (List.mem_cons_self ..))
  rw [hfo] at hf
  obtain ⟨vs0, hfv, hl0, _⟩ := hf
  have hvs0 : vs0 = [] := List.eq_nil_of_length_eq_zero (by simpa using hl0.symm)
  subst hvs0
  have hcall : (execOp a.eval o).run P w = .ok (.enter f (args.map a.eval)) w := by
    have hb : fn.body.isNone = false := by rw [k2]; rfl
    have hne : ¬ (fn.name = "runtime.NumGoroutine") := by simpa using k3
    simp [execOp, hop, resolve, hfv, Deferred.ofValue, invoke, callFunc, k1, hne, k2]
  unfold Oper.wp
  rw [hcall, Oper.upon_enter]
  let I : Nat → Nat → Prop := fun b o => (¬ X.own b → X.I b o) ∧ (X.own b → ∀ id blk, appU s.mem us id = some blk → μ id = some b → o < blk.pub)
  refine (hfn w (args.map a.eval) I (fun x hx => by
    have h1 := hr (1000000 + x.1)
    rw [hgl x hx, slotV_glob] at h1
    exact eptr_mono (fun b o u h => ⟨h.1, h.2⟩) (h1.kept r2)) ⟨hrep.1, fun i d v hd hv => (hrep.2 i d v hd hv).kept (p0_kept fun b o u h => ⟨h.1, h.2⟩)⟩).mono ?_
  rintro e w' ⟨v, rfl, hbel, hv⟩
  obtain ⟨q1, q2⟩ := r1.call hbel
  have hv' : RepD ⟨appU s.mem us, μ⟩ (CW X ⟨appU s.mem us, μ⟩ w') w' r v := hv.kept (p0_kept fun b o u h => by
    obtain ⟨h1, h2⟩ := h
    rcases h2 with ⟨h2, h3⟩ | h2
    · exact ⟨h1, h2, h3⟩
    · refine ⟨h1, fun hno => absurd (.inl (Nat.le_trans r1.bel.size h2)) hno, fun _ id blk m1 m2 => ?_⟩
      have m2 : μ id = some b := m2
      have := r1.blk id blk m1
      simp only [BlkOk, m2] at this
      obtain ⟨_, _, _, _, cur, e, lo, hi, g4, _⟩ := this
      exact absurd (Nat.lt_of_lt_of_le (Array.getElem?_eq_some_iff.1 g4).1 h2) (Nat.lt_irrefl _))
  exact ⟨μ, q1, by cases o.dst <;> simp [Act.put, hsz], by cases o.dst <;> exact hdf, put_rep (us := us) hr (r2.trans q2) hv' hsz hd⟩
theorem opT_callVG {gs : List (Nat × List E)} {ops : Array Oper} {s : St} {o : Oper} {fo : Operand} {f : Nat} {args : Array Operand} {ts : Array TypeId} {q : Prop} (hop : o.op = .call ⟨.value fo, args, ts⟩) (hgd : gdOf ops s o = .iff q) (hfo : (s.ev fo).strip = .one (.clo f [])) {as : List D} {r : D}
    (has : dataL s.mem (args.toList.map fun x => (s.ev x).strip) = some (as, [])) (hn : q → ∀ p ∈ needL s (fo :: args.toList), p) (hgl : ∀ x ∈ gs, s.tm (1000000 + x.1) = .one (.eptr x.2)) (hfn : q → FnG P f gs as r) (hd : dstOk X.nt o.dst = true) : OpT P X ops o s (s.app o.dst (.gd q r) []) := by
  intro Q a w hR0
  have hR0' := hR0
  obtain ⟨μ, hM, hsz, hdf, hr⟩ := hR0
  have hiff := gd_iff hgd hr
  by_cases hq : q
  · rw [if_pos (hiff.2 hq)]
    have := opT_callV (ops := ops) (o := { o with guard := none }) (us := []) hop (by unfold gdOf; rfl) hfo has (hn hq) hgl (hfn hq) hd Q a w hR0'
    rw [if_pos (by simp [Region.wanted])] at this
    have hm : ∀ a' w', R X (s.app o.dst r []) a' w' → R X (s.app o.dst (.gd q r) []) a' w' := by
      rintro a' w' ⟨μ', hM', hsz', hdf', hr'⟩
      refine ⟨μ', hM', hsz', hdf', fun t => ?_⟩
      have := hr' t
      cases hdst : o.dst with
      | none => rw [hdst] at this; exact this
      | some t' =>
        rw [hdst] at this
        by_cases ht : t = t'
        · subst ht
          simp only [St.app, upd_same] at this ⊢
          exact ⟨fun _ => this, fun hn => absurd hq hn⟩
        · simp only [St.app, upd_ne _ _ ht] at this ⊢
          exact this
    exact Oper.wp_mono (P := P) (Q := Q) hm this
  · rw [if_neg (fun hw => hq (hiff.1 hw))]
    exact ⟨μ, hM, by cases o.dst <;> simp [Act.put, hsz], by cases o.dst <;> exact hdf, put_rep (d := .gd q r) (v := undef) hr Kept.rfl' ⟨fun h => absurd h hq, fun _ => rfl⟩ hsz hd []⟩
end

def getG : List (Nat × List E) → Nat → D
  | [], _ => .any
  | (g, es) :: r, n => bif Nat.beq g n then .one (.eptr es) else getG r n
def St.startG (gs : List (Nat × List E)) (args : List D) : St := ⟨fun t => bif Nat.ble 1000000 t then getG gs (t - 1000000) else getArg args t, fun _ => none⟩
theorem getG_rep {C : Nat → Nat → Value → Prop} {w : World} : ∀ {gs : List (Nat × List E)}, (∀ x ∈ gs, RepD p0 C w (.one (.eptr x.2)) (.pointer (some ⟨x.1, 0, none⟩))) → ∀ n, RepD p0 C w (getG gs n) (.pointer (some ⟨n, 0, none⟩))
  | [], _, _ => trivial
  | (g, es) :: r, h, n => by
    unfold getG
    cases hb : Nat.beq g n with
    | true =>
      have := Nat.eq_of_beq_eq_true hb
      subst this
      exact h _ (List.mem_cons_self ..)
    | false => exact getG_rep (fun x hx => h x (List.mem_cons_of_mem _ hx)) n
theorem glob_of {gs : List (Nat × List E)} {tm : Nat → D} (hgl : gs.map (fun x => tm (1000000 + x.1)) = gs.map fun x => .one (.eptr x.2)) : ∀ x ∈ gs, tm (1000000 + x.1) = .one (.eptr x.2) := fun x hx => by
  obtain ⟨i, hi⟩ := List.getElem?_of_mem hx
  have := congrArg (fun l => l[i]?) hgl
  simp only [List.getElem?_map, hi, Option.map_some, Option.some.injEq] at this
  exact this
end Go.Proofs.YtcjeeoimjkhijaaDoor.Ab
