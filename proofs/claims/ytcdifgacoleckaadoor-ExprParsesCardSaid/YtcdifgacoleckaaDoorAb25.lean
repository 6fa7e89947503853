/- Functions that read variables of the package, whose cells are given. No condition. -/
import Derived.Test.YtcdifgacoleckaaDoorAbF
namespace Go.Proofs.YtcdifgacoleckaaDoor.Ab
open Go Go.RowKit

section
variable {P : Program} {T : Nat → Option TI} {X : Ctx}
/-- a function by its body, some variables of the package given -/
theorem fn_introK (hT : TOk P T) {f : Nat} {fn : Func} {c : Code} (hf : P.funcs[f]? = some fn) (hb : fn.body = some c) (hname : (fn.name == "runtime.NumGoroutine") = false) {gs : List (Nat × List E)} {args : List D} {r : D} (hn : args.length ≤ fn.ntmps)
    {K : World → Prop} (hst : ∀ w w', K w → Below w.heap.size w w' → K w') (h : ∀ X : Ctx, X.nt = fn.ntmps → (∀ w, Bel X w → K w) → Tr P X c (St.startG gs args) (Ends T fn.results.toList r)) (hbig : Nat.ble fn.ntmps 900000 = true := by rfl) (hlt : Nat.ble 1048576 f = false := by rfl) : FnK P K f gs args r := by
  refine ⟨⟨fn, c, hf, hb, Bool.or_eq_false_iff.2 ⟨hname, hlt⟩⟩, fun w vs I hk hgs hargs => ?_⟩
  have hlen : args.length = vs.size := by simpa using hargs.1
  let X : Ctx := ⟨w, I, fn.ntmps, Nat.le_of_ble_eq_true hbig, fun _ => False, fun _ => 0, []⟩
  refine calls_of_wp hf hb (wp_mono (h X rfl (fun w' hb => hst w w' hk (hb.toBelow fun _ h => h)) _ w ⟨fun _ => none, ⟨Bel.refl _, fun id blk hb => nomatch hb⟩, by show (vs ++ Array.replicate (fn.ntmps - vs.size) undef).size = fn.ntmps; simp; omega, rfl, fun t => ?_⟩) fun e a w' ⟨s', hE, hR⟩ => ?_)
  · show RepD p0 _ w (bif Nat.ble 1000000 t then getG gs (t - 1000000) else getArg args t) _
    cases hbt : Nat.ble 1000000 t with
    | true =>
      have hle := Nat.le_of_ble_eq_true hbt
      have e : slotV X.xg (vs ++ Array.replicate (fn.ntmps - vs.size) undef) t = .pointer (some ⟨t - 1000000, 0, none⟩) := by
        unfold slotV
        rw [hbt]
        rfl
      rw [e]
      exact getG_rep (fun x hx => (hgs x hx).p0_own fun b o u h => ⟨h.1, fun _ => h.2, fun _ id blk hb => nomatch hb⟩) _
    | false =>
    rw [cond_false, getArg_get]
    cases hd : args[t]? with
    | none => trivial
    | some d =>
      have ht : t < vs.size := by rw [← hlen]; exact (List.getElem?_eq_some_iff.1 hd).1
      have hv : slotV X.xg (vs ++ Array.replicate (fn.ntmps - vs.size) undef) t = vs[t] := by
        have := Nat.le_of_ble_eq_true hbig
        rw [slotV_lt (by omega), Array.getD_eq_getD_getElem?, Array.getElem?_append_left ht, Array.getElem?_eq_getElem ht]
        rfl
      simp only [Option.getD_some]
      rw [hv]
      refine (hargs.2 t d vs[t] hd (by simp [ht])).p0_own fun b o u h => ⟨h.1, fun _ => h.2, fun _ id blk hb => nomatch hb⟩
  · obtain ⟨hend, φ, r', hres, hφ, rfl⟩ := hE
    obtain ⟨μ, hM, hsz, hdf, hr⟩ := hR
    unfold resE at hres
    split at hres
    · rename_i φ' ds h1
      split at hres
      · rename_i xs us h2
        cases hall : xs.all tupOk with
        | false => simp [hall] at hres
        | true =>
          simp only [hall, cond_true, Option.some.injEq, Prod.mk.injEq] at hres
          obtain ⟨rfl, rfl⟩ := hres
          cases hro : fn.results.toList.all resOk with
          | false => rw [hro] at h1; cases h1
          | true =>
          rw [hro] at h1
          obtain ⟨us', k1, k2, k3⟩ := resL_run hT hM hr (fun x hx => List.all_eq_true.1 hro x hx) h1 hφ
          obtain ⟨r1, r2, r3, r4⟩ := RM.pubs us s'.mem hM (dataL_ok h2)
          have hd := dataL_rep (vs := us') r1 ⟨k2, fun i d v hd hv => (k3 i d v hd hv).kept r2⟩ h2 r3
          have hj := joinR_rep hd hall
          have hrun : (results fn a.tmps).run P w' = .ok (if h : us'.toArray.size = 1 then us'.toArray[0] else .tuple us'.toArray) w' := by
            have he : results fn a.tmps = (do let vs ← fn.results.mapM (resF a.tmps); pure (if h : vs.size = 1 then vs[0] else .tuple vs) : Sem Value) := rfl
            rw [he, Sem.run_bind, Array.mapM_eq_mapM_toList, Sem.run_map, k1]
            rfl
          have hfin : bodyPost P fn (fun e w'' => ∃ v, e = .returned v ∧ Below w.heap.size w w'' ∧ RepD p0 (CI' w w'' I) w'' (joinR xs) v) .normal a w' :=
            ⟨hdf, _, hrun, _, rfl, r1.bel.toBelow (fun _ h => h), hj.p0_own fun b o u hc => ⟨hc.1, (Nat.lt_or_ge b w.heap.size).imp (fun hlt => hc.2.1 fun h => h.elim (fun h => Nat.not_lt.2 h hlt) id) id⟩⟩
          rcases hend with rfl | rfl
          · exact hfin
          · exact hfin
      · cases hres
    · cases hres
theorem fn_introG (hT : TOk P T) {f : Nat} {fn : Func} {c : Code} (hf : P.funcs[f]? = some fn) (hb : fn.body = some c) (hname : (fn.name == "runtime.NumGoroutine") = false) {gs : List (Nat × List E)} {args : List D} {r : D} (hn : args.length ≤ fn.ntmps)
    (h : ∀ X : Ctx, X.nt = fn.ntmps → Tr P X c (St.startG gs args) (Ends T fn.results.toList r)) (hbig : Nat.ble fn.ntmps 900000 = true := by rfl) (hlt : Nat.ble 1048576 f = false := by rfl) : FnG P f gs args r :=
  have q := fn_introK (K := fun _ => True) hT hf hb hname hn (fun _ _ _ _ => trivial) (fun X hX _ => h X hX) hbig hlt
  ⟨q.1, fun w vs I hg ha => q.2 w vs I trivial hg ha⟩
/-- a call in a plain region of a function that reads variables of the package -/
theorem callV {nt : Nat} {ops : Array Oper} {gs : List (Nat × List E)} {o : Oper} {rest : List Oper} {tm : Nat → D} {m : Mem} {fo : Operand} {f t : Nat} {args : Array Operand} {ts : Array TypeId} {as : List D} {us : Upds} {r : D} {s'' : St} (hop : o.op = .call ⟨.value fo, args, ts⟩) (hgd : gdOf ops ⟨tm, m⟩ o = .free) (hfo : ((⟨tm, m⟩ : St).ev fo).strip = .one (.clo f []))
    (has : dataL m (args.toList.map fun x => ((⟨tm, m⟩ : St).ev x).strip) = some (as, us)) (hn : needL ⟨tm, m⟩ (fo :: args.toList) = []) (hd : o.dst = some t) (hlt : Nat.blt t nt = true) (hnt : X.nt = nt) (hgl : gs.map (fun x => tm (1000000 + x.1)) = gs.map fun x => .one (.eptr x.2)) (hfn : FnG P f gs as r) (k : Lex P X ops rest ⟨upd tm t r, updM m us⟩ s'') : Lex P X ops (o :: rest) ⟨tm, m⟩ s'' := by
  refine .cons (opT_callV (us := us) hop hgd hfo has (fun p hp => by rw [hn] at hp; cases hp) (fun x hx => ?_) hfn (by rw [hd, hnt]; exact hlt)) ?_
  · obtain ⟨i, hi⟩ := List.getElem?_of_mem hx
    have := congrArg (fun l => l[i]?) hgl
    simp only [List.getElem?_map, hi, Option.map_some, Option.some.injEq] at this
    exact this
  rw [hd]
  rw [updM_eq] at k
  exact k
theorem callK {K : World → Prop} {nt : Nat} {ops : Array Oper} {gs : List (Nat × List E)} {o : Oper} {rest : List Oper} {tm : Nat → D} {m : Mem} {fo : Operand} {f t : Nat} {args : Array Operand} {ts : Array TypeId} {as : List D} {us : Upds} {r : D} {s'' : St} (hop : o.op = .call ⟨.value fo, args, ts⟩) (hgd : gdOf ops ⟨tm, m⟩ o = .free) (hfo : ((⟨tm, m⟩ : St).ev fo).strip = .one (.clo f []))
    (has : dataL m (args.toList.map fun x => ((⟨tm, m⟩ : St).ev x).strip) = some (as, us)) (hn : needL ⟨tm, m⟩ (fo :: args.toList) = []) (hd : o.dst = some t) (hlt : Nat.blt t nt = true) (hnt : X.nt = nt) (hgl : gs.map (fun x => tm (1000000 + x.1)) = gs.map fun x => .one (.eptr x.2)) (hK : ∀ w, Bel X w → K w) (hfn : FnK P K f gs as r) (k : Lex P X ops rest ⟨upd tm t r, updM m us⟩ s'') : Lex P X ops (o :: rest) ⟨tm, m⟩ s'' := by
  refine .cons (opT_callK hK (us := us) hop hgd hfo has (fun p hp => by rw [hn] at hp; cases hp) (fun x hx => ?_) hfn (by rw [hd, hnt]; exact hlt)) ?_
  · obtain ⟨i, hi⟩ := List.getElem?_of_mem hx
    have := congrArg (fun l => l[i]?) hgl
    simp only [List.getElem?_map, hi, Option.map_some, Option.some.injEq] at this
    exact this
  rw [hd]
  rw [updM_eq] at k
  exact k
end
theorem callVG {P : Program} {gs : List (Nat × List E)} {X : Ctx} {nt : Nat} {ops : Array Oper} {o : Oper} {rest : List Oper} {tm : Nat → D} {m : Mem} {fo : Operand} {f t : Nat} {args : Array Operand} {ts : Array TypeId} {q : Prop} {as : List D} {r : D} {s'' : St} (hop : o.op = .call ⟨.value fo, args, ts⟩) (hgd : gdOf ops ⟨tm, m⟩ o = .iff q) (hfo : ((⟨tm, m⟩ : St).ev fo).strip = .one (.clo f []))
    (has : dataL m (args.toList.map fun x => ((⟨tm, m⟩ : St).ev x).strip) = some (as, [])) (hd : o.dst = some t) (hlt : Nat.blt t nt = true) (hnt : X.nt = nt) {ns : List Prop} (hns : needL ⟨tm, m⟩ (fo :: args.toList) = ns) (hn : q → AllP ns) (hgl : gs.map (fun x => tm (1000000 + x.1)) = gs.map fun x => .one (.eptr x.2)) (hfn : q → FnG P f gs as r) (k : Lex P X ops rest ⟨upd tm t (.gd q r), m⟩ s'') : Lex P X ops (o :: rest) ⟨tm, m⟩ s'' := by
  refine .cons (opT_callVG hop hgd hfo has (fun hq => by rw [hns]; exact allP_mem (hn hq)) (glob_of hgl) hfn (by rw [hd, hnt]; exact hlt)) ?_
  rw [hd]
  exact k
theorem callVD {P : Program} {gs : List (Nat × List E)} {T : Nat → Option TI} {nt : Nat} {ops : Array Oper} {o : Oper} {rest : List Oper} {tm : Nat → D} {m : Mem} {fo : Operand} {f t : Nat} {args : Array Operand} {ts : Array TypeId} {as : List D} {r : D} {fps : List FP} {s'' : St} (hop : o.op = .call ⟨.value fo, args, ts⟩) (hgd : gdOf ops ⟨tm, m⟩ o = .free) (hfo : ((⟨tm, m⟩ : St).ev fo).strip = .one (.clo f []))
    (has : dataL m (args.toList.map fun x => ((⟨tm, m⟩ : St).ev x).strip) = some (as, [])) (hn : needL ⟨tm, m⟩ (fo :: args.toList) = []) (hd : o.dst = some t) (hlt : Nat.blt t nt = true) {rd : List Nat} (hrd : (fIds (rdsL ⟨tm, m⟩ o.op.operands.toList) fun rd => some rd) = some rd) (hgl : gs.map (fun x => tm (1000000 + x.1)) = gs.map fun x => .one (.eptr x.2)) (hfn : FnG P f gs as r) (k : LexD P T nt ops rest ⟨upd tm t r, m⟩ fps s'') : LexD P T nt ops (o :: rest) ⟨tm, m⟩ ((t :: rd, []) :: fps) s'' := by
  rw [fIds_eq] at hrd
  cases hrd
  refine .cons (d := r) (us := []) ⟨.callV hop hgd hfo has (fun p hp => by rw [hn] at hp; cases hp) (glob_of hgl) hfn (by rw [hd]; exact hlt), fun x hx k hk => inB_mem (List.mem_cons_of_mem _ (rdsL_ok x (by simpa using rdO_sub hx) k hk)), by rw [hd]; exact inB_mem (List.mem_cons_self ..), fun u hu => by cases hu⟩ ?_
  rw [hd]
  exact k
theorem callVGD {P : Program} {gs : List (Nat × List E)} {T : Nat → Option TI} {nt : Nat} {ops : Array Oper} {o : Oper} {rest : List Oper} {tm : Nat → D} {m : Mem} {fo : Operand} {f t : Nat} {args : Array Operand} {ts : Array TypeId} {q : Prop} {as : List D} {r : D} {fps : List FP} {s'' : St} (hop : o.op = .call ⟨.value fo, args, ts⟩) (hgd : gdOf ops ⟨tm, m⟩ o = .iff q) (hfo : ((⟨tm, m⟩ : St).ev fo).strip = .one (.clo f []))
    (has : dataL m (args.toList.map fun x => ((⟨tm, m⟩ : St).ev x).strip) = some (as, [])) (hd : o.dst = some t) (hlt : Nat.blt t nt = true) {rd : List Nat} (hrd : (fIds (rdsL ⟨tm, m⟩ o.op.operands.toList) fun rd => some rd) = some rd) {ns : List Prop} (hns : needL ⟨tm, m⟩ (fo :: args.toList) = ns) (hn : q → AllP ns) (hgl : gs.map (fun x => tm (1000000 + x.1)) = gs.map fun x => .one (.eptr x.2)) (hfn : q → FnG P f gs as r) (k : LexD P T nt ops rest ⟨upd tm t (.gd q r), m⟩ fps s'') : LexD P T nt ops (o :: rest) ⟨tm, m⟩ ((t :: rd, []) :: fps) s'' := by
  rw [fIds_eq] at hrd
  cases hrd
  refine .cons (d := .gd q r) (us := []) ⟨.callVG hop hgd hfo has (fun hq => by rw [hns]; exact allP_mem (hn hq)) (glob_of hgl) hfn (by rw [hd]; exact hlt), fun x hx k hk => inB_mem (List.mem_cons_of_mem _ (rdsL_ok x (by simpa using rdO_sub hx) k hk)), by rw [hd]; exact inB_mem (List.mem_cons_self ..), fun u hu => by cases hu⟩ ?_
  rw [hd]
  exact k
def usIds {α : Type} (us : Upds) (k : List Nat → α) : α :=
  match us with
  | [] => k []
  | (i, _) :: r => usIds r fun r => k (i :: r)
theorem usIds_eq {α : Type} (us : Upds) (k : List Nat → α) : usIds us k = k (us.map (·.1)) := by
  induction us generalizing k with
  | nil => rfl
  | cons x r ih => simp only [usIds, ih, List.map_cons]
theorem callVDU {P : Program} {gs : List (Nat × List E)} {T : Nat → Option TI} {nt : Nat} {ops : Array Oper} {o : Oper} {rest : List Oper} {tm : Nat → D} {m : Mem} {fo : Operand} {f t : Nat} {args : Array Operand} {ts : Array TypeId} {as : List D} {us : Upds} {ids : List Nat} {r : D} {fps : List FP} {s'' : St} (hop : o.op = .call ⟨.value fo, args, ts⟩) (hgd : gdOf ops ⟨tm, m⟩ o = .free) (hfo : ((⟨tm, m⟩ : St).ev fo).strip = .one (.clo f []))
    (has : dataL m (args.toList.map fun x => ((⟨tm, m⟩ : St).ev x).strip) = some (as, us)) (hn : needL ⟨tm, m⟩ (fo :: args.toList) = []) (hd : o.dst = some t) (hlt : Nat.blt t nt = true) {rd : List Nat} (hrd : (fIds (rdsL ⟨tm, m⟩ o.op.operands.toList) fun rd => some rd) = some rd) (hids : (usIds us fun x => some x) = some ids) (hgl : gs.map (fun x => tm (1000000 + x.1)) = gs.map fun x => .one (.eptr x.2)) (hfn : FnG P f gs as r) (k : LexD P T nt ops rest ⟨upd tm t r, updM m us⟩ fps s'') : LexD P T nt ops (o :: rest) ⟨tm, m⟩ ((t :: rd, ids) :: fps) s'' := by
  rw [fIds_eq] at hrd
  cases hrd
  rw [usIds_eq] at hids
  cases hids
  refine .cons (d := r) (us := us) ⟨.callV hop hgd hfo has (fun p hp => by rw [hn] at hp; cases hp) (glob_of hgl) hfn (by rw [hd]; exact hlt), fun x hx k hk => inB_mem (List.mem_cons_of_mem _ (rdsL_ok x (by simpa using rdO_sub hx) k hk)), by rw [hd]; exact inB_mem (List.mem_cons_self ..), fun u hu => inB_mem (List.mem_map_of_mem hu)⟩ ?_
  rw [hd]
  rw [updM_eq] at k
  exact k
theorem callDU {P : Program} {T : Nat → Option TI} {nt : Nat} {ops : Array Oper} {o : Oper} {rest : List Oper} {tm : Nat → D} {m : Mem} {fo : Operand} {f t : Nat} {args : Array Operand} {ts : Array TypeId} {as : List D} {us : Upds} {ids : List Nat} {r : D} {fps : List FP} {s'' : St} (hop : o.op = .call ⟨.value fo, args, ts⟩) (hgd : gdOf ops ⟨tm, m⟩ o = .free) (hfo : ((⟨tm, m⟩ : St).ev fo).strip = .one (.clo f []))
    (has : dataL m (args.toList.map fun x => ((⟨tm, m⟩ : St).ev x).strip) = some (as, us)) (hn : needL ⟨tm, m⟩ (fo :: args.toList) = []) (hd : o.dst = some t) (hlt : Nat.blt t nt = true) {rd : List Nat} (hrd : (fIds (rdsL ⟨tm, m⟩ o.op.operands.toList) fun rd => some rd) = some rd) (hids : (usIds us fun x => some x) = some ids) (hfn : FnD P f as r) (k : LexD P T nt ops rest ⟨upd tm t r, updM m us⟩ fps s'') : LexD P T nt ops (o :: rest) ⟨tm, m⟩ ((t :: rd, ids) :: fps) s'' := by
  rw [fIds_eq] at hrd
  cases hrd
  rw [usIds_eq] at hids
  cases hids
  refine .cons (d := r) (us := us) ⟨.call hop hgd hfo has (fun p hp => by rw [hn] at hp; cases hp) hfn (by rw [hd]; exact hlt), fun x hx k hk => inB_mem (List.mem_cons_of_mem _ (rdsL_ok x (by simpa using rdO_sub hx) k hk)), by rw [hd]; exact inB_mem (List.mem_cons_self ..), fun u hu => inB_mem (List.mem_map_of_mem hu)⟩ ?_
  rw [hd]
  rw [updM_eq] at k
  exact k
/-- a call of a closure in a region that draws -/
theorem callCD {P : Program} {T : Nat → Option TI} {nt : Nat} {ops : Array Oper} {o : Oper} {rest : List Oper} {tm : Nat → D} {m : Mem} {fo : Operand} {f t : Nat} {caps : List (Nat × Nat × Nat)} {args : Array Operand} {ts : Array TypeId} {as : List D} {us : Upds} {ids : List Nat} {r : D} {fps : List FP} {s'' : St} (hop : o.op = .call ⟨.value fo, args, ts⟩) (hgd : gdOf ops ⟨tm, m⟩ o = .free) (hfo : ((⟨tm, m⟩ : St).ev fo).strip = .one (.clo f caps))
    (has : dataL m ((args.toList.map fun x => ((⟨tm, m⟩ : St).ev x).strip) ++ capD caps) = some (as, us)) (hn : needL ⟨tm, m⟩ (fo :: args.toList) = []) (hd : o.dst = some t) (hlt : Nat.blt t nt = true) {rd : List Nat} (hrd : (fIds (rdsL ⟨tm, m⟩ o.op.operands.toList) fun rd => some rd) = some rd) (hids : (usIds us fun x => some x) = some ids) (hfn : FnD P f as r) (k : LexD P T nt ops rest ⟨upd tm t r, updM m us⟩ fps s'') : LexD P T nt ops (o :: rest) ⟨tm, m⟩ ((t :: rd, ids) :: fps) s'' := by
  rw [fIds_eq] at hrd
  cases hrd
  rw [usIds_eq] at hids
  cases hids
  refine .cons (d := r) (us := us) ⟨.callC hop hgd hfo has (fun p hp => by rw [hn] at hp; cases hp) hfn (by rw [hd]; exact hlt), fun x hx k hk => inB_mem (List.mem_cons_of_mem _ (rdsL_ok x (by simpa using rdO_sub hx) k hk)), by rw [hd]; exact inB_mem (List.mem_cons_self ..), fun u hu => inB_mem (List.mem_map_of_mem hu)⟩ ?_
  rw [hd]
  rw [updM_eq] at k
  exact k
/-- a call that hands out a row of its own, in a region that draws: the row takes the number of the call's slot -/
theorem callDO {P : Program} {gs : List (Nat × List E)} {T : Nat → Option TI} {nt : Nat} {ops : Array Oper} {o : Oper} {rest : List Oper} {tm : Nat → D} {m : Mem} {fo : Operand} {f t i v v' bv bv' pub : Nat} {body : Body} {args : Array Operand} {ts : Array TypeId} {as : List D} {fps : List FP} {s'' : St} (hop : o.op = .call ⟨.value fo, args, ts⟩) (hgd : gdOf ops ⟨tm, m⟩ o = .free) (hfo : ((⟨tm, m⟩ : St).ev fo).strip = .one (.clo f []))
    (has : dataL m (args.toList.map fun x => ((⟨tm, m⟩ : St).ev x).strip) = some (as, [])) (hn : needL ⟨tm, m⟩ (fo :: args.toList) = []) (hd : o.dst = some t) (hlt : Nat.blt t nt = true) {rd : List Nat} (hrd : (fIds (rdsL ⟨tm, m⟩ o.op.operands.toList) fun rd => some rd) = some rd) (hgl : gs.map (fun x => tm (1000000 + x.1)) = gs.map fun x => .one (.eptr x.2)) (hv : v + nv m t = v') (hbv : bv + nv m t = bv') (hit : Nat.ble i t = true) (hb : (Blk.mk bv body pub).isE = true) (hfn : FnO P f gs as (.one (.own i v)) [(i, ⟨bv, body, pub⟩)]) (k : LexD P T nt ops rest ⟨upd tm t (.one (.own t v')), upd m t (some ⟨bv', body, pub⟩)⟩ fps s'') : LexD P T nt ops (o :: rest) ⟨tm, m⟩ ((t :: rd, [t]) :: fps) s'' := by
  rw [fIds_eq] at hrd
  cases hrd
  subst hv
  subst hbv
  refine .cons (d := .one (.own t (v + nv m t))) (us := [(t, ⟨bv + nv m t, body, pub⟩)]) ⟨.callO hop hgd hfo has (fun p hp => by rw [hn] at hp; cases hp) (glob_of hgl) hfn hb hit hd hlt, fun x hx k hk => inB_mem (List.mem_cons_of_mem _ (rdsL_ok x (by simpa using rdO_sub hx) k hk)), by rw [hd]; exact inB_mem (List.mem_cons_self ..), fun u hu => by
    rcases List.mem_cons.1 hu with rfl | hu
    · exact inB_mem (List.mem_cons_self ..)
    · cases hu⟩ ?_
  rw [hd]
  exact k
end Go.Proofs.YtcdifgacoleckaaDoor.Ab
