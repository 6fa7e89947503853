/- Functions with one deferred closure that recovers. No condition. -/
import Derived.Test.YtcdifgacoleckaaDoorAbR
import Derived.Recover
namespace Go.Proofs.YtcdifgacoleckaaDoor.Ab
open Go Go.RowKit

/-- a closure that is called as deferred, of a frame in mode u; it leaves the frame in mode u' -/
def FnHD (P : Program) (f : Nat) (ms : List (Nat × Blk)) (args : List D) (u u' : FrameMode) (ms' : List (Nat × Blk)) : Prop :=
  FnOk P f ∧ ∀ (w : World) (vs : Array Value) (I : Nat → Nat → Prop) (μ : Nat → Option Nat), RM (XH w I ⟨lookM ms, μ⟩) ⟨lookM ms, μ⟩ w →
    RepAsP ⟨lookM ms, μ⟩ (CW (XH w I ⟨lookM ms, μ⟩) ⟨lookM ms, μ⟩ w) w args vs.toList →
    CallsD P f vs u w fun e v w' => (∃ x, e = .returned x) ∧ v = u' ∧ ∃ μ' : Nat → Option Nat, RM (XH w I ⟨lookM ms, μ⟩) ⟨lookM ms', μ'⟩ w' ∧ (∀ id b, lookM ms id = some b → b.isBox = true → μ' id = μ id)
/-- what recover answers, and the mode that it leaves -/
def recU : FrameMode → Value × FrameMode
  | .panicking ({ v, recovered := false, goexit := false } :: older) => (v, .panicking ({ v, recovered := true } :: older))
  | u => (.nilIface, u)
theorem rec_D {c : Frame} {cs : List Frame} {u : FrameMode} (hu : c.mode = u) : ∃ cs', (match recoverD (c :: cs) with | some (v, cs') => (v, cs') | none => (.nilIface, c :: cs)) = ((recU u).1, cs') ∧ cs' = { c with mode := (recU u).2 } :: cs := by
  obtain ⟨fn, tm, td, df, mode, kd, ro⟩ := c
  subst hu
  refine ⟨_, ?_, rfl⟩
  cases mode with
  | panicking l =>
    cases l with
    | nil => rfl
    | cons p r =>
      obtain ⟨v, rc, ge⟩ := p
      cases rc <;> cases ge <;> rfl
  | _ => rfl
def EndsV (ms ms' : List (Nat × Blk)) (e : Exit) (s : St) : Prop :=
  (e = .normal ∨ e = .ret) ∧ ∀ X, Le X ⟨fun t => bif Nat.ble 900000 t then s.tm t else .any, s.mem⟩ (St.of (pins ms) ms')

section
variable {P : Program} {T : Nat → Option TI} {X : Ctx}
theorem fn_introHD {f : Nat} {fn : Func} {c : Code} {i t t2 : Nat} {o o2 : Oper} (hf : P.funcs[f]? = some fn) (hb : fn.body = some (.seq (.region i #[o, o2] false) c)) (ho : o.op = .call ⟨.builtin .recover, #[], #[]⟩) (hg : o.guard = none) (hd : o.dst = some t) (ht : Nat.blt t fn.ntmps = true) (ho2 : o2.op = .assign (.tmp t)) (hg2 : o2.guard = none) (hd2 : o2.dst = some t2) (ht2 : Nat.blt t2 fn.ntmps = true) (hres : fn.results = #[])
    (hname : (fn.name == "runtime.NumGoroutine") = false) {args : List D} {ms ms' : List (Nat × Blk)} {u : FrameMode} (hn : args.length ≤ fn.ntmps)
    (hin : okIn ms = true) (hout : okOut ms' ms = true) (hv : (recU u).1.oneCell' = true) (h : ∀ X : Ctx, X.nt = fn.ntmps → Tr P X c ⟨upd (upd (St.startH [] ms args).tm t (.one (.e (.v (recU u).1)))) t2 (.one (.e (.v (recU u).1))), lookM ms⟩ (EndsV ms ms')) (hbig : Nat.ble fn.ntmps 900000 = true := by rfl) (hlt : Nat.ble 1048576 f = false := by rfl) : FnHD P f ms args u (recU u).2 ms' := by
  refine ⟨⟨fn, _, hf, hb, Bool.or_eq_false_iff.2 ⟨hname, hlt⟩⟩, fun w vs I μ hM0 hargs => ?_⟩
  have hlen : args.length = vs.size := by simpa using hargs.1
  let X : Ctx := ⟨w, I, fn.ntmps, Nat.le_of_ble_eq_true hbig, (XH w I ⟨lookM ms, μ⟩).ex, fun t => (μ t).getD 0, []⟩
  have hbig' := Nat.le_of_ble_eq_true hbig
  have htl : t < fn.ntmps := Nat.blt_eq.mp ht
  have hsl : ∀ t, 900000 ≤ t → t < 1000000 → ∀ tmps : Array Value, slotV X.xg tmps t = .pointer (some ⟨(μ t).getD 0, 0, none⟩) := fun t h1 h2 tmps => by
    unfold slotV
    have e1 : Nat.ble 1000000 t = false := by
      cases hb : Nat.ble 1000000 t with
      | false => rfl
      | true => have := Nat.le_of_ble_eq_true hb; omega
    rw [e1, Nat.ble_eq_true_of_le h1]
    rfl
  have hbox : ∀ t b, lookM ms t = some b → b.isBox = true → ∃ g, μ t = some g := fun t b h1 h2 => by
    obtain ⟨_, _, k3⟩ := okIn_get hin h1
    have h3 := hM0.blk t b h1
    cases hg : μ t with
    | some g => exact ⟨g, rfl⟩
    | none =>
      simp only [BlkOk, hg] at h3
      exact absurd h3.1 (okIn1_len k3 h2).2
  have hsz0 : (vs ++ Array.replicate (fn.ntmps - vs.size) undef).size = X.nt := by show _ = fn.ntmps; simp; omega
  have hr0 : ∀ t, RepD ⟨lookM ms, μ⟩ (CW X ⟨lookM ms, μ⟩ w) w ((St.startH [] ms args).tm t) (slotV X.xg (vs ++ Array.replicate (fn.ntmps - vs.size) undef) t) := fun t => by
    show RepD _ _ w (bif Nat.ble 1000000 t then getG [] (t - 1000000) else bif Nat.ble 900000 t then getP ms t else getArg args t) _
    cases hbt : Nat.ble 1000000 t with
    | true => exact trivial
    | false =>
    rw [cond_false]
    have hlt : t < 1000000 := by
      rcases Nat.lt_or_ge t 1000000 with h | h
      · exact h
      · rw [Nat.ble_eq_true_of_le h] at hbt; cases hbt
    cases hb9 : Nat.ble 900000 t with
    | true =>
      have hle := Nat.le_of_ble_eq_true hb9
      rw [cond_true, hsl t hle hlt]
      rcases getP_cases (ms := ms) (t := t) with h1 | ⟨b, h1, h2, h3⟩
      · rw [h1]; trivial
      · rw [h3]
        obtain ⟨g, hg⟩ := hbox t b h1 h2
        exact ⟨rfl, b, h1, Nat.zero_le _, fun _ => ⟨g, hg, by rw [hg]; rfl⟩⟩
    | false =>
    rw [cond_false, getArg_get]
    cases hd : args[t]? with
    | none => trivial
    | some d =>
      have ht : t < vs.size := by rw [← hlen]; exact (List.getElem?_eq_some_iff.1 hd).1
      have hv : slotV X.xg (vs ++ Array.replicate (fn.ntmps - vs.size) undef) t = vs[t] := by
        rw [slotV_lt (by omega), Array.getD_eq_getD_getElem?, Array.getElem?_append_left ht, Array.getElem?_eq_getElem ht]
        rfl
      simp only [Option.getD_some]
      rw [hv]
      exact hargs.2 t d vs[t] hd (by simp [ht])
  refine callsD_of_wpS hf hb fun c₀ cs hu => wpS_seq (wpS_region ?_)
  obtain ⟨cs', e1, e2⟩ := rec_D (cs := cs) hu
  have hR : R X ⟨upd (St.startH [] ms args).tm t (.one (.e (.v (recU u).1))), lookM ms⟩ (({ tmps := vs ++ Array.replicate (fn.ntmps - vs.size) undef, defers := [] } : Act).put o.dst (recU u).1) w := by
    refine ⟨μ, ⟨hM0.bel, hM0.blk⟩, by rw [hd]; simpa [Act.put] using hsz0, by rw [hd]; rfl, ?_⟩
    have hp := put_rep (X := X) (s := ⟨(St.startH [] ms args).tm, lookM ms⟩) (dst := o.dst) (d := .one (.e (.v (recU u).1))) (v := (recU u).1) (a := { tmps := vs ++ Array.replicate (fn.ntmps - vs.size) undef, defers := [] }) hr0 Kept.rfl' (RepE.v _ hv) hsz0 (by rw [hd]; exact ht) []
    intro t'
    have h1 := hp t'
    rw [hd] at h1 ⊢
    exact h1
  have hfin : ∀ a w', R X ⟨upd (upd (St.startH [] ms args).tm t (.one (.e (.v (recU u).1)))) t2 (.one (.e (.v (recU u).1))), lookM ms⟩ a w' → w' = w → c.wpS P (bodyPostS P fn c₀ cs fun e v w' => (∃ x, e = .returned x) ∧ v = (recU u).2 ∧ ∃ μ' : Nat → Option Nat, RM (XH w I ⟨lookM ms, μ⟩) ⟨lookM ms', μ'⟩ w' ∧ (∀ id b, lookM ms id = some b → b.isBox = true → μ' id = μ id)) a cs' w' := by
    intro a w0 hR0 hw0
    refine wpS_of_wp (wp_mono (h X rfl a w0 hR0) fun e a w' ⟨s', hE, hR⟩ => ?_)
    obtain ⟨hend, hle⟩ := hE
    obtain ⟨μ1, hM, hsz, hdf, hr⟩ := hR
    obtain ⟨μ', hM', _, _, hr'⟩ := hle ⟨w, I, 1, by decide, (XH w I ⟨lookM ms, μ⟩).ex, X.xg, []⟩ { a with tmps := #[undef] } w' ⟨μ1, ⟨hM.bel, hM.blk⟩, rfl, hdf, fun t => by
      show RepD _ _ _ (bif Nat.ble 900000 t then s'.tm t else .any) _
      cases h9 : Nat.ble 900000 t with
      | false => trivial
      | true =>
        have e : slotV X.xg #[undef] t = slotV X.xg a.tmps t := by
          unfold slotV
          cases Nat.ble 1000000 t with
          | true => rfl
          | false => rw [h9]; rfl
        rw [cond_true]
        show RepD _ _ _ _ (slotV X.xg #[undef] t)
        rw [e]
        exact hr t⟩
    have hpost : bodyPostS P fn c₀ cs (fun e v w' => (∃ x, e = .returned x) ∧ v = (recU u).2 ∧ ∃ μ' : Nat → Option Nat, RM (XH w I ⟨lookM ms, μ⟩) ⟨lookM ms', μ'⟩ w' ∧ (∀ id b, lookM ms id = some b → b.isBox = true → μ' id = μ id)) .normal a cs' w' := by
      refine ⟨hdf, _, e2, .tuple #[], ?_, ⟨_, rfl⟩, rfl, μ', ⟨hM'.bel, hM'.blk⟩, fun id b h1 h2 => ?_⟩
      · unfold results
        rw [hres]
        simp
      · obtain ⟨q1, q2, q3⟩ := okIn_get hin h1
        obtain ⟨g, hg⟩ := hbox id b h1 h2
        obtain ⟨b', e1, e2, e3⟩ := okOut_get hout h1 h2
        have h3 := hr' id
        rw [show (St.of (pins ms) ms').tm id = lookT (pins ms) id from rfl, pins_get h1 h2] at h3
        obtain ⟨_, blk, f1, f2, f3⟩ := h3
        have f1 : lookM ms' id = some blk := f1
        rw [e1] at f1
        cases f1
        obtain ⟨g', g1, g2⟩ := f3 e2.symm
        have g2 : slotV X.xg #[undef] id = .pointer (some ⟨g', 0, none⟩) := g2
        rw [hsl id q1 q2, hg] at g2
        simp only [Value.pointer.injEq, Option.some.injEq, Addr.mk.injEq, Option.getD_some, and_true] at g2
        rw [hg, g2]
        exact g1
    rcases hend with rfl | rfl
    · exact hpost
    · exact hpost
  have hrun : (execOp ({ tmps := vs ++ Array.replicate (fn.ntmps - vs.size) undef, defers := [] } : Act).eval o).run P w = .ok .recover w := by
    simp [execOp, ho, resolve, invoke, builtin]
  have hR2 : ∀ a, R X ⟨upd (St.startH [] ms args).tm t (.one (.e (.v (recU u).1))), lookM ms⟩ a w → a.eval (.tmp t) = (recU u).1 → R X ⟨upd (upd (St.startH [] ms args).tm t (.one (.e (.v (recU u).1)))) t2 (.one (.e (.v (recU u).1))), lookM ms⟩ (a.put o2.dst (recU u).1) w := by
    rintro a ⟨μ1, hM, hsz, hdf, hr⟩ _
    refine ⟨μ1, hM, by rw [hd2]; simpa [Act.put] using hsz, by rw [hd2]; exact hdf, ?_⟩
    have hp := put_rep (X := X) (dst := o2.dst) (d := .one (.e (.v (recU u).1))) (v := (recU u).1) hr Kept.rfl' (RepE.v _ hv) hsz (by rw [hd2]; exact ht2) []
    intro t'
    have h1 := hp t'
    rw [hd2] at h1 ⊢
    exact h1
  have hev : ∀ v : Value, (({ tmps := vs ++ Array.replicate (fn.ntmps - vs.size) undef, defers := [] } : Act).put o.dst v).eval (.tmp t) = v := fun v => by
    rw [hd]
    have hsz0 : t < (vs ++ Array.replicate (fn.ntmps - vs.size) undef).size := by rw [hsz0]; exact htl
    simp only [Act.put, Act.eval]
    rw [Array.getD_eq_getD_getElem?, Array.getElem?_setIfInBounds_self_of_lt hsz0]
    rfl
  have hrun2 : ∀ a : Act, (execOp a.eval o2).run P w = .ok (.value (a.eval (.tmp t))) w := fun a => by
    simp [execOp, ho2]
  have hgo : ∀ a cs, R X ⟨upd (St.startH [] ms args).tm t (.one (.e (.v (recU u).1))), lookM ms⟩ a w → a.eval (.tmp t) = (recU u).1 → cs = cs' → ∀ Q : Exit → Act → List Frame → World → Prop, (∀ a, R X ⟨upd (upd (St.startH [] ms args).tm t (.one (.e (.v (recU u).1)))) t2 (.one (.e (.v (recU u).1))), lookM ms⟩ a w → Q .normal a cs' w) → wpOpsS P #[o, o2] Q [1] a cs w := by
    intro a cs hRa he hcs Q hQ
    subst hcs
    unfold wpOpsS
    rw [show (#[o, o2] : Array Oper)[1]? = some o2 from rfl]
    simp only
    rw [if_pos (show Region.wanted o2 _ = true by unfold Region.wanted; rw [hg2]), hrun2, he]
    simp only [Oper.upon]
    unfold wpOpsS
    exact hQ _ (hR2 a hRa he)
  show wpOpsS P #[o, o2] _ [0, 1] _ _ _
  unfold wpOpsS
  rw [show (#[o, o2] : Array Oper)[0]? = some o from rfl]
  simp only
  rw [if_pos (show Region.wanted o _ = true by unfold Region.wanted; rw [hg]), hrun]
  simp only
  split
  · rename_i v cs1 hrec
    rw [hrec] at e1
    simp only [Prod.mk.injEq] at e1
    obtain ⟨rfl, rfl⟩ := e1
    exact hgo _ _ hR (hev _) rfl _ fun a hRa => hfin a w hRa rfl
  · rename_i hrec
    rw [hrec] at e1
    simp only [Prod.mk.injEq] at e1
    obtain ⟨e1, rfl⟩ := e1
    rw [e1]
    exact hgo _ _ hR (hev _) rfl _ fun a hRa => hfin a w hRa rfl

/-- what a call answers, told at its end -/
theorem res_fin (hT : TOk P T) {w : World} {I : Nat → Nat → Prop} {fn : Func} {X : Ctx} (hW : X.W = w) (hI : X.I = I) (hex : X.ex = fun _ => False) {s : St} {a : Act} {w' : World} (hR : R X s a w') {φ : Prop} {r : D} (hres : resE T s fn.results.toList = some (φ, r)) (hφ : φ) :
    ∃ v, (results fn a.tmps).run P w' = .ok v w' ∧ Below w.heap.size w w' ∧ RepD p0 (CI' w w' I) w' r v := by
  obtain ⟨XW, XI, nt, big, ex, xg, df⟩ := X
  have hW : XW = w := hW
  have hI : XI = I := hI
  have hex : ex = fun _ => False := hex
  subst hW hI hex
  obtain ⟨μ, hM, hsz, hdf, hr⟩ := hR
  unfold resE at hres
  split at hres
  · rename_i φ' ds h1
    split at hres
    · rename_i xs us h2
      cases hall : xs.all tupOk with
      | false => simp [hall] at hres
      | true =>
        simp only [hall, cond_true, Option.some.injEq, Prod.mk.injEq] at hres
        obtain ⟨rfl, rfl⟩ := hres
        cases hro : fn.results.toList.all resOk with
        | false => rw [hro] at h1; cases h1
        | true =>
        rw [hro] at h1
        obtain ⟨us', k1, k2, k3⟩ := resL_run hT hM hr (fun x hx => List.all_eq_true.1 hro x hx) h1 hφ
        obtain ⟨r1, r2, r3, r4⟩ := RM.pubs us s.mem hM (dataL_ok h2)
        have hd := dataL_rep (vs := us') r1 ⟨k2, fun i d v hd hv => (k3 i d v hd hv).kept r2⟩ h2 r3
        have hj := joinR_rep hd hall
        have hrun : (results fn a.tmps).run P w' = .ok (if h : us'.toArray.size = 1 then us'.toArray[0] else .tuple us'.toArray) w' := by
          have he : results fn a.tmps = (do let vs ← fn.results.mapM (resF a.tmps); pure (if h : vs.size = 1 then vs[0] else .tuple vs) : Sem Value) := rfl
          rw [he, Sem.run_bind, Array.mapM_eq_mapM_toList, Sem.run_map, k1]
          rfl
        exact ⟨_, hrun, r1.bel.toBelow (fun _ h => h), hj.p0_own fun b o u hc => ⟨hc.1, (Nat.lt_or_ge b XW.heap.size).imp (fun hlt => hc.2.1 fun h => h.elim (fun h => Nat.not_lt.2 h hlt) id) id⟩⟩
    · cases hres
  · cases hres

/-! ### a closure deferred -/
def pinT (caps : List (Nat × Nat × Nat)) (tm : Nat → D) : Nat → D := fun t => bif Nat.ble 1000000 t then tm t else bif Nat.ble 900000 t then (match caps[t - 900000]? with | some c => .one (.ptr c.1 c.2.1 c.2.2) | none => .any) else tm t
def pinD (tm : Nat → D) : Nat → Nat → List D
  | 0, _ => []
  | n + 1, j => tm j :: pinD tm n (j + 1)
theorem pinD_len (tm : Nat → D) : ∀ n j, (pinD tm n j).length = n
  | 0, _ => rfl
  | n + 1, j => congrArg (· + 1) (pinD_len tm n (j + 1))
theorem pinD_get {tm : Nat → D} : ∀ {n j i : Nat} {d : D}, (pinD tm n j)[i]? = some d → d = tm (j + i) ∧ i < n
  | 0, _, _, _, h => nomatch h
  | n + 1, j, 0, d, h => by cases h; exact ⟨rfl, Nat.succ_pos _⟩
  | n + 1, j, i + 1, d, h => by
    have := pinD_get (n := n) (j := j + 1) (i := i) h
    exact ⟨by rw [this.1]; congr 1; omega, Nat.succ_lt_succ this.2⟩
def modeOf : Exit → FrameMode
  | .panic ch => .panicking ch
  | _ => .returning
def EndsD (P : Program) (T : Nat → Option TI) (f n : Nat) (rs : List ResultVar) (r : D) (e : Exit) (s : St) : Prop :=
  (e = .normal ∨ e = .ret ∨ ∃ ch, e = .panic ch) ∧ ∃ u' ms ms' as L K, FnHD P f ms as (modeOf e) u' ms' ∧ settle u' = .returning ∧ ArgsH s.mem (rnIn s.mem (L ++ K)) (fun c => isS (lookM ms c)) (pinD s.tm n 900000) as [] ∧
    okIds ms ms' L K [] = true ∧ InOk s.mem ms (rnIn s.mem (L ++ K)) (L ++ K) ∧ ShOk ms ms' L ∧ ∃ φ r', resE T ⟨s.tm, memH s.mem ms' L K []⟩ rs = some (φ, r') ∧ φ ∧ r' = r
/-- the region that defers, and what stands behind it -/
def DefGo (P : Program) (T : Nat → Option TI) (X : Ctx) (ops : Array Oper) (rest : Code) (rs : List ResultVar) (r : D) (s : St) : Prop :=
  ∃ k s1 o fo ts f caps, Lex P X ops (ops.toList.take k) s s1 ∧ ops.toList.drop k = [o] ∧ o.op = .defer ⟨.value fo, #[], ts⟩ ∧ o.guard = none ∧ o.dst = none ∧ (s1.ev fo).strip = .one (.clo f caps) ∧ needL s1 [fo] = [] ∧ Nat.ble 1048576 f = false ∧
    capOk s1.mem caps = true ∧ caps.all (fun c => Nat.beq c.2.2 0) = true ∧ Nat.ble caps.length 90000 = true ∧
    ∀ X' : Ctx, X'.nt = X.nt → Tr P X' rest ⟨pinT caps s1.tm, s1.mem⟩ (EndsD P T f caps.length rs r)
def thenG (T : Nat → Option TI) (rs : List ResultVar) (r : D) (K : St → Prop) : Exit → St → Prop
  | .normal, s => K s
  | e, s => Ends T rs r e s

theorem leaves_end (hT : TOk P T) {w0 : World} {I : Nat → Nat → Prop} {fn : Func} {f : Nat} {caps : List (Nat × Nat × Nat)} {vs : List Value} {X : Ctx} (hW : X.W = w0) (hI : X.I = I) (hex : X.ex = fun _ => False) (hdf0 : X.df = [⟨.fn (.func f) vs.toArray, #[]⟩]) (hn : vs.length = caps.length) (hc9 : Nat.ble caps.length 90000 = true)
    (hvs : ∀ (i : Nat) (v : Value), vs[i]? = some v → v = .pointer (some ⟨X.xg (900000 + i), 0, none⟩)) {r : D} {e : Exit} {s : St} {a : Act} {w : World} (hR : R X s a w) (hE : EndsD P T f caps.length fn.results.toList r e s) :
    bodyPostD P fn (fun e w'' => ∃ v, e = .returned v ∧ Below w0.heap.size w0 w'' ∧ RepD p0 (CI' w0 w'' I) w'' r v) e a w := by
  obtain ⟨hend, u', ms, ms', as, L, K, hfn, hset, has, hids, hin, hsh, φ, r', hres, hφ, rfl⟩ := hE
  obtain ⟨μ, hM, hsz, hdf, hr⟩ := hR
  rw [hdf0] at hdf
  obtain ⟨hF, hCin, hRc, hInv⟩ := RM.lend hM hids hin
  have hle := Nat.le_of_ble_eq_true hc9
  have hrep := argsH_rep (vs := vs) hM hCin hInv has ⟨by rw [pinD_len, hn], fun i d v hd hv => by
    obtain ⟨rfl, hi⟩ := pinD_get hd
    have h1 := hr (900000 + i)
    have e2 : slotV X.xg a.tmps (900000 + i) = .pointer (some ⟨X.xg (900000 + i), 0, none⟩) := by
      unfold slotV
      have e1 : Nat.ble 1000000 (900000 + i) = false := by
        cases hb : Nat.ble 1000000 (900000 + i) with
        | false => rfl
        | true => have := Nat.le_of_ble_eq_true hb; omega
      rw [e1, Nat.ble_eq_true_of_le (Nat.le_add_right ..)]
      rfl
    rw [e2] at h1
    rw [hvs i v hv]
    exact h1⟩ (fun u hu => nomatch hu)
  have key : Leaves P fn a.tmps (fun e w'' => ∃ v, e = .returned v ∧ Below w0.heap.size w0 w'' ∧ RepD p0 (CI' w0 w'' I) w'' r' v) a.defers (modeOf e) w := by
    rw [hdf]
    obtain ⟨⟨fn1, c1, k1, k2, k34⟩, hfn⟩ := hfn
    obtain ⟨k3, k4⟩ := Bool.or_eq_false_iff.1 k34
    refine leaves_cons (f := f) (args := vs.toArray) (by rcases hend with rfl | rfl | ⟨ch, rfl⟩ <;> exact FrameMode.noConfusion) ?_ ?_
    · have hb : fn1.body.isNone = false := by rw [k2]; rfl
      have hne : ¬ (fn1.name = "runtime.NumGoroutine") := by simpa using k3
      simp [invoke, callFunc, k1, hne, k2]
    · refine (hfn w vs.toArray _ _ hRc (by simpa using hrep)).mono ?_
      rintro e' v' w' ⟨⟨x, rfl⟩, rfl, μf, hMf, hkeep⟩
      obtain ⟨μ', t1, t2, t3, t4⟩ := RM.back hM hids hin hsh rfl rfl hMf hkeep
      show Leaves P fn a.tmps _ [] (settle v') w'
      rw [hset]
      obtain ⟨v, g1, g2, g3⟩ := res_fin (fn := fn) hT hW hI hex (s := ⟨s.tm, memH s.mem ms' L K []⟩) (a := a) (w' := w') ⟨μ', t1, hsz, by rw [hdf0]; exact hdf, fun t => (hr t).kept t2⟩ hres hφ
      exact ⟨v, g1, v, rfl, g2, g3⟩
  rcases hend with rfl | rfl | ⟨ch, rfl⟩
  · exact key
  · exact key
  · exact key

theorem wp_defer {X : Ctx} (hdf0 : X.df = []) {id : Nat} {ops : Array Oper} {rest : Code} {rs : List ResultVar} {r : D} {s : St} (h : DefGo P T X ops rest rs r s) {W : Exit → Act → World → Prop}
    (hW : ∀ (X' : Ctx) (f : Nat) (caps : List (Nat × Nat × Nat)) (vs : List Value) (s' : St) (e : Exit) (a : Act) (w : World), X'.W = X.W → X'.I = X.I → X'.ex = X.ex → X'.df = [⟨.fn (.func f) vs.toArray, #[]⟩] → vs.length = caps.length → Nat.ble caps.length 90000 = true → (∀ (i : Nat) (v : Value), vs[i]? = some v → v = .pointer (some ⟨X'.xg (900000 + i), 0, none⟩)) → R X' s' a w → EndsD P T f caps.length rs r e s' → W e a w) :
    ∀ a w, R X s a w → (Code.seq (.region id ops false) rest).wp P W a w := by
  obtain ⟨k, s1, o, fo, ts, f, caps, hl, hd, hop, hg, hdst, hfo, hnd, hf, hcap, hoff, hc9, hrest⟩ := h
  intro a w hR
  refine wp_seq (wp_region_list ?_)
  have e : ops.toList = ops.toList.take k ++ [o] := by rw [← hd, List.take_append_drop]
  have key : ∀ (l : List Oper) (s t : St), Lex P X ops l s t → ∀ Q : Exit → Act → World → Prop, (∀ a w, R X t a w → wpList P ops Q [o] a w) → ∀ a w, R X s a w → wpList P ops Q (l ++ [o]) a w := by
    intro l s t q
    induction q with
    | nil s => exact fun Q h a w hR => h a w hR
    | cons h1 _ ih =>
      intro Q hQ a w hR
      have h2 := h1 Q a w hR
      rw [List.cons_append]
      unfold wpList
      split
      · rename_i hw
        rw [if_pos hw] at h2
        exact .inl (Oper.wp_mono (fun a w hr => ih Q hQ a w hr) h2)
      · rename_i hw
        rw [if_neg hw] at h2
        exact ih Q hQ _ _ h2
  rw [e]
  refine key _ s s1 hl _ (fun a w hR => ?_) a w hR
  obtain ⟨μ, hM, hsz, hdf, hr⟩ := hR
  have hfr := strip_rep (ev_rep hr fo) (needs_all (fun p hp => by rw [hnd] at hp; cases hp) fo (List.mem_cons_self ..))
  rw [hfo] at hfr
  obtain ⟨vs, hfv, hl0, hcp⟩ := hfr
  rw [cloV_lt hf] at hfv
  have hrun : (execOp a.eval o).run P w = .ok (.defer ⟨.fn (.func f) vs.toArray, #[]⟩) w := by
    simp [execOp, hop, resolve, hfv, Deferred.ofValue]
  unfold wpList
  rw [if_pos (show Region.wanted o _ = true by unfold Region.wanted; rw [hg])]
  refine .inl ?_
  unfold Oper.wp
  rw [hrun, Oper.upon_defer, hdst]
  unfold wpList
  let xg : Nat → Nat := fun t => match vs[t - 900000]? with
    | some (.pointer (some ad)) => ad.block
    | _ => 0
  let X' : Ctx := ⟨X.W, X.I, X.nt, X.big, X.ex, xg, [⟨.fn (.func f) vs.toArray, #[]⟩]⟩
  have hptr : ∀ (i : Nat) (u : Value), vs[i]? = some u → u = .pointer (some ⟨xg (900000 + i), 0, none⟩) := by
    intro i u hu
    have hi : i < caps.length := by rw [hl0]; exact (List.getElem?_eq_some_iff.1 hu).1
    have hc : caps[i]? = some caps[i] := List.getElem?_eq_getElem hi
    obtain ⟨b, b1, b2⟩ := capOk_get hcap (List.mem_of_getElem? hc)
    obtain ⟨b', b1', b3, b4⟩ := hcp i _ u hc hu
    have b1' : s1.mem caps[i].1 = some b' := b1'
    rw [b1] at b1'
    cases b1'
    obtain ⟨g, _, rfl⟩ := b4 b2.symm
    have h0 : caps[i].2.2 = 0 := Nat.eq_of_beq_eq_true (List.all_eq_true.1 hoff _ (List.mem_of_getElem? hc))
    have hx : xg (900000 + i) = g := by
      show (match vs[900000 + i - 900000]? with
        | some (.pointer (some ad)) => ad.block
        | _ => 0) = g
      rw [Nat.add_sub_cancel_left, hu]
    rw [hx, h0]
  have hR' : R X' ⟨pinT caps s1.tm, s1.mem⟩ { a with defers := ⟨.fn (.func f) vs.toArray, #[]⟩ :: a.defers } w := by
    refine ⟨μ, ⟨hM.bel, hM.blk⟩, hsz, by show _ :: a.defers = _; rw [hdf, hdf0], fun t => ?_⟩
    have h1 := hr t
    show RepD _ _ w (bif Nat.ble 1000000 t then s1.tm t else bif Nat.ble 900000 t then (match caps[t - 900000]? with | some c => .one (.ptr c.1 c.2.1 c.2.2) | none => .any) else s1.tm t) (slotV xg a.tmps t)
    cases hb : Nat.ble 1000000 t with
    | true =>
      have e2 : slotV xg a.tmps t = slotV X.xg a.tmps t := by unfold slotV; rw [hb]; rfl
      rw [e2]
      exact h1
    | false =>
      rw [cond_false]
      cases hb9 : Nat.ble 900000 t with
      | false =>
        have e2 : slotV xg a.tmps t = slotV X.xg a.tmps t := by unfold slotV; rw [hb, hb9]; rfl
        rw [e2]
        exact h1
      | true =>
        rw [cond_true]
        have hle := Nat.le_of_ble_eq_true hb9
        split
        · rename_i c hc
          obtain ⟨u, hu⟩ : ∃ u, vs[t - 900000]? = some u := by
            have : t - 900000 < vs.length := by rw [← hl0]; exact (List.getElem?_eq_some_iff.1 hc).1
            exact ⟨_, List.getElem?_eq_getElem this⟩
          have e2 : slotV xg a.tmps t = u := by
            rw [hptr _ u hu, show 900000 + (t - 900000) = t by omega]
            unfold slotV
            rw [hb, hb9]
            rfl
          rw [e2]
          have h3 := hcp _ c u hc hu
          refine ⟨by rw [hptr _ u hu]; rfl, h3⟩
        · trivial
  refine wp_mono (hrest X' rfl _ _ hR') fun e a w ⟨s', hE, hRf⟩ => ?_
  have := hW X' f caps vs s' e a w rfl rfl rfl rfl hl0.symm hc9 hptr hRf hE
  cases e <;> exact this
theorem fn_introDf (hT : TOk P T) {f : Nat} {fn : Func} {p1 p2 p3 rest : Code} {id : Nat} {ops : Array Oper} (hf : P.funcs[f]? = some fn) (hb : fn.body = some (.seq p1 (.seq p2 (.seq p3 (.seq (.region id ops false) rest))))) (hname : (fn.name == "runtime.NumGoroutine") = false) {gs : List (Nat × List E)} {args : List D} {r : D} (hn : args.length ≤ fn.ntmps)
    (h : ∀ X : Ctx, X.nt = fn.ntmps → Tr P X p1 (St.startG gs args) (thenG T fn.results.toList r fun s => Tr P X p2 s (thenG T fn.results.toList r fun s => Tr P X p3 s (thenG T fn.results.toList r fun s => DefGo P T X ops rest fn.results.toList r s))))
    (hbig : Nat.ble fn.ntmps 900000 = true := by rfl) (hlt : Nat.ble 1048576 f = false := by rfl) : FnG P f gs args r := by
  refine ⟨⟨fn, _, hf, hb, Bool.or_eq_false_iff.2 ⟨hname, hlt⟩⟩, fun w vs I hgs hargs => ?_⟩
  have hlen : args.length = vs.size := by simpa using hargs.1
  let X : Ctx := ⟨w, I, fn.ntmps, Nat.le_of_ble_eq_true hbig, fun _ => False, fun _ => 0, []⟩
  have hend : ∀ e s a w', Ends T fn.results.toList r e s → R X s a w' → bodyPostD P fn (fun e w'' => ∃ v, e = .returned v ∧ Below w.heap.size w w'' ∧ RepD p0 (CI' w w'' I) w'' r v) e a w' := by
    rintro e s a w' ⟨he, φ, r', hres, hφ, rfl⟩ hR
    obtain ⟨v, g1, g2, g3⟩ := res_fin (fn := fn) (w := w) (I := I) hT rfl rfl rfl hR hres hφ
    have hdf : a.defers = [] := by obtain ⟨_, _, _, hdf, _⟩ := hR; exact hdf
    have key : Leaves P fn a.tmps (fun e w'' => ∃ v, e = .returned v ∧ Below w.heap.size w w'' ∧ RepD p0 (CI' w w'' I) w'' r' v) a.defers .returning w' := by
      rw [hdf]
      exact ⟨v, g1, v, rfl, g2, g3⟩
    rcases he with rfl | rfl
    · exact key
    · exact key
  have hstep : ∀ (p c : Code) (s : St) (a : Act) (w' : World) (K : St → Prop), R X s a w' → Tr P X p s (thenG T fn.results.toList r K) → (∀ s a w', R X s a w' → K s → c.wp P (bodyPostD P fn fun e w'' => ∃ v, e = .returned v ∧ Below w.heap.size w w'' ∧ RepD p0 (CI' w w'' I) w'' r v) a w') → (Code.seq p c).wp P (bodyPostD P fn fun e w'' => ∃ v, e = .returned v ∧ Below w.heap.size w w'' ∧ RepD p0 (CI' w w'' I) w'' r v) a w' := by
    intro p c s a w' K hR hT1 hc
    refine wp_seq (wp_mono (hT1 a w' hR) fun e a w' ⟨s', hE, hR'⟩ => ?_)
    cases e with
    | normal => exact hc s' a w' hR' hE
    | _ => exact hend _ s' a w' hE hR'
  refine calls_of_wp_defers hf hb (hstep p1 _ (St.startG gs args) _ w _ ?_ (h X rfl) fun s a w' hR hK => hstep p2 _ s a w' _ hR hK fun s a w' hR hK => hstep p3 _ s a w' _ hR hK fun s a w' hR hK => wp_defer rfl hK (fun X' f caps vs s' e a w' h1 h2 h3 h4 h5 h6 h7 hR' hE => leaves_end hT h1 h2 h3 h4 h5 h6 h7 hR' hE) a w' hR)
  refine ⟨fun _ => none, ⟨Bel.refl _, fun id blk hb => nomatch hb⟩, by show (vs ++ Array.replicate (fn.ntmps - vs.size) undef).size = fn.ntmps; simp; omega, rfl, fun t => ?_⟩
  show RepD p0 _ w (bif Nat.ble 1000000 t then getG gs (t - 1000000) else getArg args t) _
  cases hbt : Nat.ble 1000000 t with
  | true =>
    have hle := Nat.le_of_ble_eq_true hbt
    have e : slotV X.xg (vs ++ Array.replicate (fn.ntmps - vs.size) undef) t = .pointer (some ⟨t - 1000000, 0, none⟩) := by
      unfold slotV
      rw [hbt]
      rfl
    rw [e]
    exact getG_rep (fun x hx => (hgs x hx).p0_own fun b o u h => ⟨h.1, fun _ => h.2, fun _ id blk hb => nomatch hb⟩) _
  | false =>
  rw [cond_false, getArg_get]
  cases hd : args[t]? with
  | none => trivial
  | some d =>
    have ht : t < vs.size := by rw [← hlen]; exact (List.getElem?_eq_some_iff.1 hd).1
    have hv : slotV X.xg (vs ++ Array.replicate (fn.ntmps - vs.size) undef) t = vs[t] := by
      have := Nat.le_of_ble_eq_true hbig
      rw [slotV_lt (by omega), Array.getD_eq_getD_getElem?, Array.getElem?_append_left ht, Array.getElem?_eq_getElem ht]
      rfl
    simp only [Option.getD_some]
    rw [hv]
    refine (hargs.2 t d vs[t] hd (by simp [ht])).p0_own fun b o u h => ⟨h.1, fun _ => h.2, fun _ id blk hb => nomatch hb⟩

/-- is an interface value nil? -/
def isNilI : Value → Option Bool
  | .nilIface => some true
  | .iface _ _ => some false
  | _ => none
theorem run_eqI {t : TypeId} {ms : Array (String × TypeId)} {w : World} {v : Value} {b : Bool} (n : Nat) (hv : isNilI v = some b) (hu : P.underlying t = some (.interface ms)) : (Op.equalIn (n + 1) t v .nilIface).run P w = .ok b w := by
  cases v with
  | nilIface => cases hv; simp [Op.equalIn, run_underlying hu]
  | iface ty u => cases hv; simp [Op.equalIn, run_underlying hu]
  | _ => cases hv
theorem run_neqI {t : TypeId} {ms : Array (String × TypeId)} {w : World} {v : Value} {b : Bool} (hv : isNilI v = some b) (hu : P.underlying t = some (.interface ms)) : (binOp .neq t v .nilIface).run P w = .ok (.bool (!b)) w := by
  have h := run_eqI (w := w) 9999 hv hu
  cases v with
  | nilIface => simp only [binOp]; simp [Op.equal, Op.maxDepth, h]
  | iface ty u => simp only [binOp]; simp [Op.equal, Op.maxDepth, h]
  | _ => cases hv
theorem run_guardI {t : TypeId} {w : World} {x : Operand} {v : Value} {b : Bool} (hv : isNilI v = some b) : (eqGuard .neq t x (.const .nilIface) v .nilIface).run P w = .ok () w := by
  cases v with
  | nilIface => simp [eqGuard]
  | iface ty u => simp [eqGuard]
  | _ => cases hv
theorem opT_nilI {ops : Array Oper} {s : St} {o : Oper} {t t2 d : Nat} {x : Operand} {v : Value} {b : Bool} {ms : Array (String × TypeId)} (hop : o.op = .binOp .neq t x (.const .nilIface) t2) (hg : o.guard = none) (hd : o.dst = some d) (hlt : Nat.blt d X.nt = true) (hx : (s.ev x).strip = .one (.e (.v v))) (hn : needL s [x] = []) (hv : isNilI v = some b) (hu : P.underlying t = some (.interface ms)) : OpT P X ops o s (s.app o.dst (.v (.bool (!b))) []) := by
  intro Q a w ⟨μ, hM, hsz, hdf, hr⟩
  rw [if_pos (show Region.wanted o _ = true by unfold Region.wanted; rw [hg])]
  have hf := strip_rep (ev_rep hr x) (needs_all (fun p hp => by rw [hn] at hp; cases hp) x (List.mem_cons_self ..))
  rw [hx] at hf
  have hvx : a.eval x = v := repV hf
  have hc : a.eval (.const .nilIface) = .nilIface := rfl
  have hcall : (execOp a.eval o).run P w = .ok (.value (.bool (!b))) w := by
    simp [execOp, hop, hvx, hc, run_guardI hv, run_neqI hv hu]
  unfold Oper.wp
  rw [hcall, Oper.upon_value]
  refine ⟨μ, hM, by rw [hd]; simpa [Act.put] using hsz, by rw [hd]; exact hdf, ?_⟩
  exact put_rep (X := X) hr Kept.rfl' (repV_mk rfl) hsz (by rw [hd]; exact hlt) []
end
end Go.Proofs.YtcdifgacoleckaaDoor.Ab
