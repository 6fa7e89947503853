/- Calls of methods through interface values. No condition. -/
import Derived.Test.YthnadkafegmacaaDoorAbZ
namespace Go.Proofs.YthnadkafegmacaaDoor.Ab
open Go Go.RowKit

def notPtr : TypeDesc → Bool
  | .pointer _ => false
  | _ => true
/-- a value of type t has the method 'name', which is function f of the value itself -/
def methB (P : Program) (t : Nat) (name : String) (f : Nat) : Bool :=
  match P.info? t, P.underlying t with
  | some i, some d =>
    match i.methods.find? (·.name == name) with
    | some ⟨_, _, ⟨[]⟩, some (g, false)⟩ => Nat.beq g f && notPtr d
    | _ => false
  | _, _ => false
theorem methB_run {P : Program} {t f : Nat} {name : String} (h : methB P t name f = true) (v : Value) (w : World) : (method (P.types.size + Made.depth) t v name).run P w = .ok (f, v) w := by
  unfold methB at h
  split at h
  · rename_i i d h1 h2
    split at h
    · rename_i nm sig g hm
      rw [Bool.and_eq_true] at h
      obtain rfl := Nat.eq_of_beq_eq_true h.1
      have hd : ∀ e, d ≠ .pointer e := fun e he => by rw [he] at h; exact absurd h.2 (by simp [notPtr])
      have hr : (receiverAt t (.val v) false (some ((name.splitOn ".").getLastD name))).run P w = .ok v w := by
        simp only [receiverAt, Sem.run_bind, run_underlying h2, Result.andThen_ok]
        cases d with
        | pointer e => exact absurd rfl (hd e)
        | _ => rfl
      have hti : (typeInfo t).run P w = .ok i w := by simp [typeInfo, h1]
      have hfo : (follow [] t (.val v)).run P w = .ok (t, .val v) w := rfl
      show (method ((P.types.size + 99) + 1) t v name).run P w = _
      rw [method]
      simp only [Sem.run_bind, hti, Result.andThen_ok, hm, hfo]
      show ((receiverAt t (.val v) false (some ((name.splitOn ".").getLastD name))).run P w).andThen _ = _
      rw [hr]
      rfl
    · cases h
  · cases h

section
variable {P : Program} {X : Ctx}
/-- a call of a method of an interface value -/
theorem opT_inv {gs : List (Nat × List E)} {ops : Array Oper} {s : St} {o : Oper} {fo : Operand} {name : String} {t f : Nat} {vs : List Value} {args : Array Operand} {ts : Array TypeId} (hop : o.op = .call ⟨.invoke fo name, args, ts⟩) (hgd : gdOf ops s o = .free) (hfo : (s.ev fo).strip = .one (.e (.v (.iface t (.agg vs.toArray))))) (hm : methB P t name f = true) (hvs : vs.all (·.oneCell') = true) {as : List D} {us : Upds} {r : D}
    (has : dataL s.mem (args.toList.map fun x => (s.ev x).strip) = some (as, us)) (hn : ∀ p ∈ needL s (fo :: args.toList), p) (hgl : ∀ x ∈ gs, s.tm (1000000 + x.1) = .one (.eptr x.2)) (hfn : FnG P f gs (.agg (.es (vs.map .v)) :: as) r) (hd : dstOk X.nt o.dst = true) : OpT P X ops o s (s.app o.dst r us) := by
  intro Q a w ⟨μ, hM, hsz, hdf, hr⟩
  rw [if_pos (gd_free hgd a)]
  obtain ⟨⟨fn, c, k1, k2, k3⟩, hfn⟩ := hfn
  obtain ⟨r1, r2, r3, r4⟩ := RM.pubs us s.mem hM (dataL_ok has)
  have hrep := dataL_rep (vs := (args.map a.eval).toList) r1 ⟨by simp, fun i d v hd hv => by
    simp only [List.getElem?_map, Array.toList_map, Option.map_eq_some_iff] at hd hv
    obtain ⟨x, hx, rfl⟩ := hd
    obtain ⟨y, hy, rfl⟩ := hv
    rw [hx] at hy
    cases hy
    exact (strip_rep (ev_rep hr x) (needs_all hn x (List.mem_cons_of_mem _ (List.mem_of_getElem? hx)))).kept r2⟩ has r3
  have hf := strip_rep (ev_rep hr fo) (needs_all hn fo (List.mem_cons_self ..))
  rw [hfo] at hf
  have hfv : a.eval fo = .iface t (.agg vs.toArray) := repV hf
  have hcall : (execOp a.eval o).run P w = .ok (.enter f (#[.agg vs.toArray] ++ args.map a.eval)) w := by
    have hb : fn.body.isNone = false := by rw [k2]; rfl
    have hne : ¬ (fn.name = "runtime.NumGoroutine") := by simpa using k3
    have hmr := methB_run hm (.agg vs.toArray) w
    have hex : (#[Value.iface t (.agg vs.toArray)] ++ args.map a.eval).extract 1 (#[Value.iface t (.agg vs.toArray)] ++ args.map a.eval).size = args.map a.eval := by
      apply Array.ext'
      simp
      exact List.take_of_length_le (by simp)
    have h0 : (#[Value.iface t (.agg vs.toArray)] ++ args.map a.eval)[0]? = some (.iface t (.agg vs.toArray)) := by
      rw [Array.getElem?_append_left (by simp)]
      rfl
    have hcf : (callFunc f (#[.agg vs.toArray] ++ args.map a.eval)).run P w = .ok (.enter f (#[.agg vs.toArray] ++ args.map a.eval)) w := by
      simp [callFunc, k1, hne, k2]
    have hcm : (callMethod (.iface t (.agg vs.toArray)) name (args.map a.eval)).run P w = .ok (.enter f (#[.agg vs.toArray] ++ args.map a.eval)) w := by
      unfold callMethod
      simp only [Sem.run_bind, run_program, Result.andThen_ok, hmr]
      exact hcf
    have hin : (invoke (.fn (.method name) #[]) (#[Value.iface t (.agg vs.toArray)] ++ args.map a.eval)).run P w = .ok (.enter f (#[.agg vs.toArray] ++ args.map a.eval)) w := by
      unfold invoke
      simp only [h0, hex]
      exact hcm
    unfold execOp
    rw [hop]
    simp only [resolve, hfv, Sem.run_bind, Sem.run_pure, Result.andThen_ok]
    exact hin
  unfold Oper.wp
  rw [hcall, Oper.upon_enter]
  let I : Nat → Nat → Prop := fun b o => (¬ X.own b → X.I b o) ∧ (X.own b → ∀ id blk, appU s.mem us id = some blk → μ id = some b → o < blk.pub)
  have htl : (#[Value.agg vs.toArray] ++ args.map a.eval).toList = .agg vs.toArray :: (args.map a.eval).toList := by simp
  have hreps : RepAs (CI w I) w (.agg (.es (vs.map .v)) :: as) (#[Value.agg vs.toArray] ++ args.map a.eval).toList := by
    rw [htl]
    refine ⟨by have := hrep.1; simpa using this, fun i d v hd hv => ?_⟩
    cases i with
    | zero =>
      rw [List.getElem?_cons_zero, Option.some.injEq] at hd hv
      subst hd
      subst hv
      exact ⟨vs, rfl, vs_rep hvs⟩
    | succ i =>
      rw [List.getElem?_cons_succ] at hd hv
      exact (hrep.2 i d v hd hv).kept (p0_kept fun b o u h => ⟨h.1, h.2⟩)
  have hgs : ∀ x ∈ gs, RepD p0 (CI w I) w (.one (.eptr x.2)) (.pointer (some ⟨x.1, 0, none⟩)) := fun x hx => by
    have h1 := hr (1000000 + x.1)
    rw [hgl x hx, slotV_glob] at h1
    exact eptr_mono (fun b o u h => ⟨h.1, h.2⟩) (h1.kept r2)
  refine (hfn w _ I hgs hreps).mono ?_
  rintro e w' ⟨v, rfl, hbel, hv⟩
  obtain ⟨q1, q2⟩ := r1.call hbel
  have hv' : RepD ⟨appU s.mem us, μ⟩ (CW X ⟨appU s.mem us, μ⟩ w') w' r v := hv.kept (p0_kept fun b o u h => by
    obtain ⟨h1, h2⟩ := h
    rcases h2 with ⟨h2, h3⟩ | h2
    · exact ⟨h1, h2, h3⟩
    · refine ⟨h1, fun hno => absurd (.inl (Nat.le_trans r1.bel.size h2)) hno, fun _ id blk m1 m2 => ?_⟩
      have m2 : μ id = some b := m2
      have := r1.blk id blk m1
      simp only [BlkOk, m2] at this
      obtain ⟨_, _, _, _, cur, e, lo, hi, g4, _⟩ := this
      exact absurd (Nat.lt_of_lt_of_le (Array.getElem?_eq_some_iff.1 g4).1 h2) (Nat.lt_irrefl _))
  exact ⟨μ, q1, by cases o.dst <;> simp [Act.put, hsz], by cases o.dst <;> exact hdf, put_rep (us := us) hr (r2.trans q2) hv' hsz hd⟩

theorem callI {nt : Nat} {ops : Array Oper} {gs : List (Nat × List E)} {o : Oper} {rest : List Oper} {tm : Nat → D} {m : Mem} {fo : Operand} {name : String} {ty f t : Nat} {vs : List Value} {args : Array Operand} {ts : Array TypeId} {as : List D} {us : Upds} {r : D} {s'' : St} (hop : o.op = .call ⟨.invoke fo name, args, ts⟩) (hgd : gdOf ops ⟨tm, m⟩ o = .free) (hfo : ((⟨tm, m⟩ : St).ev fo).strip = .one (.e (.v (.iface ty (.agg vs.toArray)))))
    (has : dataL m (args.toList.map fun x => ((⟨tm, m⟩ : St).ev x).strip) = some (as, us)) (hn : needL ⟨tm, m⟩ (fo :: args.toList) = []) (hd : o.dst = some t) (hlt : Nat.blt t nt = true) (hnt : X.nt = nt) (hgl : gs.map (fun x => tm (1000000 + x.1)) = gs.map fun x => .one (.eptr x.2)) (hm : methB P ty name f = true) (hvs : vs.all (·.oneCell') = true) (hfn : FnG P f gs (.agg (.es (vs.map .v)) :: as) r) (k : Lex P X ops rest ⟨upd tm t r, updM m us⟩ s'') : Lex P X ops (o :: rest) ⟨tm, m⟩ s'' := by
  refine .cons (opT_inv (us := us) hop hgd hfo hm hvs has (fun p hp => by rw [hn] at hp; cases hp) (fun x hx => ?_) hfn (by rw [hd, hnt]; exact hlt)) ?_
  · obtain ⟨i, hi⟩ := List.getElem?_of_mem hx
    have := congrArg (fun l => l[i]?) hgl
    simp only [List.getElem?_map, hi, Option.map_some, Option.some.injEq] at this
    exact this
  rw [hd]
  rw [updM_eq] at k
  exact k
end
end Go.Proofs.YthnadkafegmacaaDoor.Ab
