/- Calls that end in a panic. No condition. -/
import Derived.Test.YtcdifgacoleckaaDoorAbJ
namespace Go.Proofs.YtcdifgacoleckaaDoor.Ab
open Go Go.RowKit

/-- a function that panics, having turned what is lent into ms' -/
def FnP (P : Program) (f : Nat) (gs : List (Nat × List E)) (ms : List (Nat × Blk)) (args : List D) (ch : List PanicEntry) (ms' : List (Nat × Blk)) : Prop :=
  FnOk P f ∧ ∀ (w : World) (vs : Array Value) (I : Nat → Nat → Prop) (μ : Nat → Option Nat), RM (XH w I ⟨lookM ms, μ⟩) ⟨lookM ms, μ⟩ w →
    (∀ x ∈ gs, RepD p0 (CW (XH w I ⟨lookM ms, μ⟩) ⟨lookM ms, μ⟩ w) w (.one (.eptr x.2)) (.pointer (some ⟨x.1, 0, none⟩))) →
    RepAsP ⟨lookM ms, μ⟩ (CW (XH w I ⟨lookM ms, μ⟩) ⟨lookM ms, μ⟩ w) w args vs.toList →
    Calls P f vs w fun e w' => e = .panicked ch ∧ ∃ μ' : Nat → Option Nat, RM (XH w I ⟨lookM ms, μ⟩) ⟨lookM ms', μ'⟩ w' ∧ (∀ id b, lookM ms id = some b → b.isBox = true → μ' id = μ id)
def EndsP (ch : List PanicEntry) (ms ms' : List (Nat × Blk)) (e : Exit) (s : St) : Prop :=
  e = .panic ch ∧ ∀ X, Le X ⟨fun t => bif Nat.ble 900000 t then s.tm t else .any, s.mem⟩ (St.of (pins ms) ms')

section
variable {P : Program} {T : Nat → Option TI} {X : Ctx}
theorem fn_introP {f : Nat} {fn : Func} {c : Code} (hf : P.funcs[f]? = some fn) (hb : fn.body = some c) (hname : (fn.name == "runtime.NumGoroutine") = false) {gs : List (Nat × List E)} {args : List D} {ch : List PanicEntry} {ms ms' : List (Nat × Blk)} (hn : args.length ≤ fn.ntmps)
    (hin : okIn ms = true) (hout : okOut ms' ms = true) (h : ∀ X : Ctx, X.nt = fn.ntmps → Tr P X c (St.startH gs ms args) (EndsP ch ms ms')) (hbig : Nat.ble fn.ntmps 900000 = true := by rfl) (hlt : Nat.ble 1048576 f = false := by rfl) : FnP P f gs ms args ch ms' := by
  refine ⟨⟨fn, c, hf, hb, Bool.or_eq_false_iff.2 ⟨hname, hlt⟩⟩, fun w vs I μ hM0 hgs hargs => ?_⟩
  have hlen : args.length = vs.size := by simpa using hargs.1
  let X : Ctx := ⟨w, I, fn.ntmps, Nat.le_of_ble_eq_true hbig, (XH w I ⟨lookM ms, μ⟩).ex, fun t => (μ t).getD 0, []⟩
  have hbig' := Nat.le_of_ble_eq_true hbig
  have hsl : ∀ t, 900000 ≤ t → t < 1000000 → ∀ tmps : Array Value, slotV X.xg tmps t = .pointer (some ⟨(μ t).getD 0, 0, none⟩) := fun t h1 h2 tmps => by
    unfold slotV
    have e1 : Nat.ble 1000000 t = false := by
      cases hb : Nat.ble 1000000 t with
      | false => rfl
      | true => have := Nat.le_of_ble_eq_true hb; omega
    rw [e1, Nat.ble_eq_true_of_le h1]
    rfl
  have hbox : ∀ t b, lookM ms t = some b → b.isBox = true → ∃ g, μ t = some g := fun t b h1 h2 => by
    obtain ⟨_, _, k3⟩ := okIn_get hin h1
    have h3 := hM0.blk t b h1
    cases hg : μ t with
    | some g => exact ⟨g, rfl⟩
    | none =>
      simp only [BlkOk, hg] at h3
      exact absurd h3.1 (okIn1_len k3 h2).2
  refine calls_of_wp hf hb (wp_mono (h X rfl _ w ⟨μ, ⟨hM0.bel, hM0.blk⟩, by show (vs ++ Array.replicate (fn.ntmps - vs.size) undef).size = fn.ntmps; simp; omega, rfl, fun t => ?_⟩) fun e a w' ⟨s', hE, hR⟩ => ?_)
  · show RepD _ _ w (bif Nat.ble 1000000 t then getG gs (t - 1000000) else bif Nat.ble 900000 t then getP ms t else getArg args t) _
    cases hbt : Nat.ble 1000000 t with
    | true =>
      have e : slotV X.xg (vs ++ Array.replicate (fn.ntmps - vs.size) undef) t = .pointer (some ⟨t - 1000000, 0, none⟩) := by
        unfold slotV
        rw [hbt]
        rfl
      rw [e, cond_true]
      exact (getG_rep (C := CW X ⟨lookM ms, μ⟩ w) hgs _).kept (p0_kept fun b o u h => h)
    | false =>
    rw [cond_false]
    have hlt : t < 1000000 := by
      rcases Nat.lt_or_ge t 1000000 with h | h
      · exact h
      · rw [Nat.ble_eq_true_of_le h] at hbt; cases hbt
    cases hb9 : Nat.ble 900000 t with
    | true =>
      have hle := Nat.le_of_ble_eq_true hb9
      rw [cond_true, hsl t hle hlt]
      rcases getP_cases (ms := ms) (t := t) with h1 | ⟨b, h1, h2, h3⟩
      · rw [h1]; trivial
      · rw [h3]
        obtain ⟨g, hg⟩ := hbox t b h1 h2
        exact ⟨rfl, b, h1, Nat.zero_le _, fun _ => ⟨g, hg, by rw [hg]; rfl⟩⟩
    | false =>
    rw [cond_false, getArg_get]
    cases hd : args[t]? with
    | none => trivial
    | some d =>
      have ht : t < vs.size := by rw [← hlen]; exact (List.getElem?_eq_some_iff.1 hd).1
      have hv : slotV X.xg (vs ++ Array.replicate (fn.ntmps - vs.size) undef) t = vs[t] := by
        rw [slotV_lt (by omega), Array.getD_eq_getD_getElem?, Array.getElem?_append_left ht, Array.getElem?_eq_getElem ht]
        rfl
      simp only [Option.getD_some]
      rw [hv]
      exact hargs.2 t d vs[t] hd (by simp [ht])
  · obtain ⟨rfl, hle⟩ := hE
    obtain ⟨μ1, hM, hsz, hdf, hr⟩ := hR
    obtain ⟨μ', hM', _, _, hr'⟩ := hle ⟨w, I, 1, by decide, (XH w I ⟨lookM ms, μ⟩).ex, X.xg, []⟩ { a with tmps := #[undef] } w' ⟨μ1, ⟨hM.bel, hM.blk⟩, rfl, hdf, fun t => by
      show RepD _ _ _ (bif Nat.ble 900000 t then s'.tm t else .any) _
      cases h9 : Nat.ble 900000 t with
      | false => trivial
      | true =>
        have e : slotV X.xg #[undef] t = slotV X.xg a.tmps t := by
          unfold slotV
          cases Nat.ble 1000000 t with
          | true => rfl
          | false => rw [h9]; rfl
        rw [cond_true]
        show RepD _ _ _ _ (slotV X.xg #[undef] t)
        rw [e]
        exact hr t⟩
    refine ⟨hdf, rfl, μ', ⟨hM'.bel, hM'.blk⟩, fun id b h1 h2 => ?_⟩
    obtain ⟨q1, q2, q3⟩ := okIn_get hin h1
    obtain ⟨g, hg⟩ := hbox id b h1 h2
    obtain ⟨b', e1, e2, e3⟩ := okOut_get hout h1 h2
    have h3 := hr' id
    rw [show (St.of (pins ms) ms').tm id = lookT (pins ms) id from rfl, pins_get h1 h2] at h3
    obtain ⟨_, blk, f1, f2, f3⟩ := h3
    have f1 : lookM ms' id = some blk := f1
    rw [e1] at f1
    cases f1
    obtain ⟨g', g1, g2⟩ := f3 e2.symm
    have g2 : slotV X.xg #[undef] id = .pointer (some ⟨g', 0, none⟩) := g2
    rw [hsl id q1 q2, hg] at g2
    simp only [Value.pointer.injEq, Option.some.injEq, Addr.mk.injEq, Option.getD_some, and_true] at g2
    rw [hg, g2]
    exact g1

/-- an operation that panics -/
def OpP (P : Program) (X : Ctx) (ops : Array Oper) (o : Oper) (ch : List PanicEntry) (s s' : St) : Prop :=
  ∀ (N : Act → World → Prop) (Q : Exit → Act → World → Prop) (a : Act) (w : World), R X s a w → (∀ w', R X s' a w' → Q (.panic ch) a w') → Region.wanted o (yielded ops a.tmps) = true ∧ o.wp P a w N Q
/-- operations in their order, of which one panics -/
inductive LexP (P : Program) (X : Ctx) (ops : Array Oper) (ch : List PanicEntry) : List Oper → St → St → Prop
  | pan {o : Oper} {r : List Oper} {s s1 : St} (h : OpP P X ops o ch s s1) : LexP P X ops ch (o :: r) s s1
  | cons {o : Oper} {r : List Oper} {s s1 s2 : St} (h : OpT P X ops o s s1) (k : LexP P X ops ch r s1 s2) : LexP P X ops ch (o :: r) s s2
theorem lexP_list {ops : Array Oper} {ch : List PanicEntry} {Q : Exit → Act → World → Prop} {l : List Oper} {s s' : St} (h : LexP P X ops ch l s s') (hQ : ∀ a w, R X s' a w → Q (.panic ch) a w) : ∀ a w, R X s a w → wpList P ops Q l a w := by
  induction h with
  | pan h =>
    intro a w hR
    obtain ⟨h1, h2⟩ := h (wpList P ops Q _) Q a w hR (fun w' => hQ a w')
    unfold wpList
    rw [if_pos h1]
    exact .inl h2
  | cons h k ih =>
    intro a w hR
    have h1 := h Q a w hR
    unfold wpList
    split
    · rename_i hw
      rw [if_pos hw] at h1
      exact .inl (Oper.wp_mono (fun a w hr => ih hQ a w hr) h1)
    · rename_i hw
      rw [if_neg hw] at h1
      exact ih hQ _ _ h1
theorem tr_regionP {id : Nat} {ops : Array Oper} {ch : List PanicEntry} {s s' : St} {Q : Exit → St → Prop} (h : LexP P X ops ch ops.toList s s') (hQ : Q (.panic ch) s') : Tr P X (.region id ops false) s Q :=
  fun a w hR => wp_region_list (lexP_list h (fun _ _ h => ⟨s', hQ, h⟩) a w hR)
/-- a call that panics -/
theorem opP_call {gs : List (Nat × List E)} {ops : Array Oper} {s : St} {o : Oper} {fo : Operand} {f : Nat} {caps : List (Nat × Nat × Nat)} {args : Array Operand} {ts : Array TypeId} (L K A : List (Nat × Nat)) (hop : o.op = .call ⟨.value fo, args, ts⟩) (hgd : gdOf ops s o = .free) (hfo : (s.ev fo).strip = .one (.clo f caps)) (hcap : capOk s.mem caps = true) {as : List D} {us : Upds} {ch : List PanicEntry} {ms ms' : List (Nat × Blk)}
    (has : ArgsH s.mem (rnIn (appU s.mem us) (L ++ K)) (fun c => isS (lookM ms c)) ((args.toList.map fun x => (s.ev x).strip) ++ capD caps) as us) (hn : ∀ p ∈ needL s (fo :: args.toList), p) (hgl : ∀ x ∈ gs, s.tm (1000000 + x.1) = .one (.eptr x.2)) (hfn : FnP P f gs ms as ch ms')
    (hids : okIds ms ms' L K A = true) (hin : InOk (appU s.mem us) ms (rnIn (appU s.mem us) (L ++ K)) (L ++ K)) (hsh : ShOk ms ms' L) : OpP P X ops o ch s ⟨s.tm, memH (appU s.mem us) ms' L K A⟩ := by
  intro N Q a w ⟨μ, hM, hsz, hdf, hr⟩ hQ
  refine ⟨gd_free hgd a, ?_⟩
  obtain ⟨⟨fn, c, k1, k2, k34⟩, hfn⟩ := hfn
  obtain ⟨k3, k4⟩ := Bool.or_eq_false_iff.1 k34
  obtain ⟨r1, r2, r3, r4⟩ := RM.pubs us s.mem hM (argsH_ok has)
  have hf := strip_rep (ev_rep hr fo) (needs_all hn fo (List.mem_cons_self ..))
  rw [hfo] at hf
  obtain ⟨vs0, hfv, hl0, hcp⟩ := hf
  rw [cloV_lt k4] at hfv
  obtain ⟨z1, z2⟩ := capD_rep (X := X) (w := w) hcap hl0 hcp
  obtain ⟨hF, hCin, hRc, hInv⟩ := RM.lend r1 hids hin
  let I : Nat → Nat → Prop := fun b o => (¬ X.own b → X.I b o) ∧ (X.own b → ∀ id blk, appU s.mem us id = some blk → μ id = some b → o < blk.pub)
  let μc : Nat → Option Nat := fun c => match lkN (L ++ K) c with | some i => μ i | none => none
  have hrep := argsH_rep (vs := (args.map a.eval).toList ++ vs0) r1 hCin hInv has ⟨by simp [z1], fun i d v hd hv => by
    by_cases hi : i < args.size
    · rw [List.getElem?_append_left (by simpa using hi)] at hd hv
      simp only [List.getElem?_map, Array.toList_map, Option.map_eq_some_iff] at hd hv
      obtain ⟨x, hx, rfl⟩ := hd
      obtain ⟨y, hy, rfl⟩ := hv
      rw [hx] at hy
      cases hy
      exact (strip_rep (ev_rep hr x) (needs_all hn x (List.mem_cons_of_mem _ (List.mem_of_getElem? hx)))).kept r2
    · rw [List.getElem?_append_right (by simpa using hi)] at hd hv
      simp only [List.length_map, Array.length_toList, Array.toList_map] at hd hv
      exact (z2 _ d v hd hv).kept r2⟩ r3
  have hcall : (execOp a.eval o).run P w = .ok (.enter f (args.map a.eval ++ vs0.toArray)) w := by
    have hb : fn.body.isNone = false := by rw [k2]; rfl
    have hne : ¬ (fn.name = "runtime.NumGoroutine") := by simpa using k3
    simp [execOp, hop, resolve, hfv, Deferred.ofValue, invoke, callFunc, k1, hne, k2]
  unfold Oper.wp
  rw [hcall, Oper.upon_enter]
  have hl : (args.map a.eval ++ vs0.toArray).toList = (args.map a.eval).toList ++ vs0 := by simp
  refine (hfn w (args.map a.eval ++ vs0.toArray) I μc hRc (fun x hx => by
    have h1 := hr (1000000 + x.1)
    rw [hgl x hx, slotV_glob] at h1
    exact eptr_mono hCin (h1.kept r2)) (by rw [hl]; exact hrep)).mono ?_
  rintro e w' ⟨rfl, μf, hMf, hkeep⟩
  obtain ⟨μ', t1, t2, t3, t4⟩ := RM.back r1 hids hin hsh rfl rfl hMf hkeep
  exact hQ w' ⟨μ', t1, hsz, hdf, fun t => (hr t).kept (r2.trans t2)⟩
/-- the same in a plain region -/
theorem callP (L K A : List (Nat × Nat)) {gs : List (Nat × List E)} {ops : Array Oper} {o : Oper} {rest : List Oper} {tm : Nat → D} {m : Mem} {fo : Operand} {f : Nat} {caps : List (Nat × Nat × Nat)} {args : Array Operand} {ts : Array TypeId} {as : List D} {us : Upds} {ch : List PanicEntry} {ms ms' : List (Nat × Blk)} (hop : o.op = .call ⟨.value fo, args, ts⟩) (hgd : gdOf ops ⟨tm, m⟩ o = .free) (hfo : ((⟨tm, m⟩ : St).ev fo).strip = .one (.clo f caps)) (hcap : capOk m caps = true)
    (hfn : FnP P f gs ms as ch ms') (has : ArgsH m (rnIn m (L ++ K)) (fun c => isS (lookM ms c)) ((args.toList.map fun x => ((⟨tm, m⟩ : St).ev x).strip) ++ capD caps) as us) (hver : ∀ i, verOf (updM m us) i = verOf m i) (hn : needL ⟨tm, m⟩ (fo :: args.toList) = []) (hgl : gs.map (fun x => tm (1000000 + x.1)) = gs.map fun x => .one (.eptr x.2))
    (hids : okIds ms ms' L K A = true) (hin : InOk (updM m us) ms (rnIn m (L ++ K)) (L ++ K)) (hsh : ShOk ms ms' L) : LexP P X ops ch (o :: rest) ⟨tm, m⟩ ⟨tm, memH (updM m us) ms' L K A⟩ := by
  have e : rnIn m (L ++ K) = rnIn (updM m us) (L ++ K) := by
    funext c
    unfold rnIn
    split
    · rw [hver]
    · rfl
  rw [e] at has hin
  rw [updM_eq] at has hin ⊢
  exact .pan (opP_call (s := ⟨tm, m⟩) L K A hop hgd hfo hcap has (fun p hp => by rw [hn] at hp; cases hp) (glob_of hgl) hfn hids hin hsh)


/-- a call of a variable's method that lends what it names -/
theorem opT_callB {gs : List (Nat × List E)} {ops : Array Oper} {s : St} {o : Oper} {fo : Operand} {f : Nat} {caps : List (Nat × Nat × Nat)} {ts : Array TypeId} (L K A : List (Nat × Nat)) (hop : o.op = .call ⟨.value fo, #[], ts⟩) (hgd : gdOf ops s o = .free) (hfo : (s.ev fo).strip = .one (.clo (1048576 + f) caps)) (hcap : capOk s.mem caps = true) {as : List D} {us : Upds} {r : D} {ms ms' : List (Nat × Blk)}
    (has : ArgsH s.mem (rnIn (appU s.mem us) (L ++ K)) (fun c => isS (lookM ms c)) (capD caps) as us) (hn : ∀ p ∈ needL s [fo], p) (hgl : ∀ x ∈ gs, s.tm (1000000 + x.1) = .one (.eptr x.2)) (hfn : FnH P f gs ms as r ms')
    (hids : okIds ms ms' L K A = true) (hin : InOk (appU s.mem us) ms (rnIn (appU s.mem us) (L ++ K)) (L ++ K)) (hsh : ShOk ms ms' L) (hd : dstOk X.nt o.dst = true) : OpT P X ops o s ⟨putO s.tm o.dst (r.rn (rnOut (appU s.mem us) L A)), memH (appU s.mem us) ms' L K A⟩ := by
  intro Q a w ⟨μ, hM, hsz, hdf, hr⟩
  rw [if_pos (gd_free hgd a)]
  obtain ⟨⟨fn, c, k1, k2, k34⟩, hfn⟩ := hfn
  obtain ⟨k3, k4⟩ := Bool.or_eq_false_iff.1 k34
  obtain ⟨r1, r2, r3, r4⟩ := RM.pubs us s.mem hM (argsH_ok has)
  have hf := strip_rep (ev_rep hr fo) (needs_all hn fo (List.mem_cons_self ..))
  rw [hfo] at hf
  obtain ⟨vs0, hfv, hl0, hcp⟩ := hf
  rw [cloV_ge] at hfv
  obtain ⟨z1, z2⟩ := capD_rep (X := X) (w := w) hcap hl0 hcp
  obtain ⟨hF, hCin, hRc, hInv⟩ := RM.lend r1 hids hin
  let I : Nat → Nat → Prop := fun b o => (¬ X.own b → X.I b o) ∧ (X.own b → ∀ id blk, appU s.mem us id = some blk → μ id = some b → o < blk.pub)
  let μc : Nat → Option Nat := fun c => match lkN (L ++ K) c with | some i => μ i | none => none
  have hrep := argsH_rep (vs := vs0) r1 hCin hInv has ⟨z1, fun i d v hd hv => (z2 i d v hd hv).kept r2⟩ r3
  have hcall : (execOp a.eval o).run P w = .ok (.enter f vs0.toArray) w := by
    have hb : fn.body.isNone = false := by rw [k2]; rfl
    have hne : ¬ (fn.name = "runtime.NumGoroutine") := by simpa using k3
    simp [execOp, hop, resolve, hfv, Deferred.ofValue, invoke, callFunc, k1, hne, k2]
  unfold Oper.wp
  rw [hcall, Oper.upon_enter]
  refine (hfn w vs0.toArray I μc hRc (fun x hx => by
    have h1 := hr (1000000 + x.1)
    rw [hgl x hx, slotV_glob] at h1
    exact eptr_mono hCin (h1.kept r2)) hrep).mono ?_
  rintro e w' ⟨v, rfl, μf, hMf, hkeep, hv⟩
  obtain ⟨μ', t1, t2, t3, t4⟩ := RM.back r1 hids hin hsh rfl rfl hMf hkeep
  have hv' := rn_rep t3 t4 hv
  refine ⟨μ', t1, by cases o.dst <;> simp [Act.put, hsz], by cases o.dst <;> exact hdf, ?_⟩
  have := put_rep (dst := o.dst) hr (r2.trans t2) hv' hsz hd []
  intro t
  have h := this t
  have e : (s.app o.dst (r.rn (rnOut (appU s.mem us) L A)) []).tm t = putO s.tm o.dst (r.rn (rnOut (appU s.mem us) L A)) t := by
    unfold St.app putO
    cases o.dst <;> rfl
  rw [e] at h
  exact h
/-- the same in a plain region -/
theorem callB (L K A : List (Nat × Nat)) {gs : List (Nat × List E)} {nt : Nat} {ops : Array Oper} {o : Oper} {rest : List Oper} {tm : Nat → D} {m : Mem} {fo : Operand} {f : Nat} {caps : List (Nat × Nat × Nat)} {ts : Array TypeId} {as : List D} {us : Upds} {r : D} {ms ms' : List (Nat × Blk)} {s'' : St} (hop : o.op = .call ⟨.value fo, #[], ts⟩) (hgd : gdOf ops ⟨tm, m⟩ o = .free) (hfo : ((⟨tm, m⟩ : St).ev fo).strip = .one (.clo (1048576 + f) caps)) (hcap : capOk m caps = true)
    (hfn : FnH P f gs ms as r ms') (has : ArgsH m (rnIn m (L ++ K)) (fun c => isS (lookM ms c)) (capD caps) as us) (hver : ∀ i, verOf (updM m us) i = verOf m i) (hn : needL ⟨tm, m⟩ [fo] = []) (hd : dstOk nt o.dst = true) (hnt : X.nt = nt) (hgl : gs.map (fun x => tm (1000000 + x.1)) = gs.map fun x => .one (.eptr x.2))
    (hids : okIds ms ms' L K A = true) (hin : InOk (updM m us) ms (rnIn m (L ++ K)) (L ++ K)) (hsh : ShOk ms ms' L) (k : Lex P X ops rest ⟨putO tm o.dst (r.rn (rnOut (updM m us) L A)), memH (updM m us) ms' L K A⟩ s'') : Lex P X ops (o :: rest) ⟨tm, m⟩ s'' := by
  have e : rnIn m (L ++ K) = rnIn (updM m us) (L ++ K) := by
    funext c
    unfold rnIn
    split
    · rw [hver]
    · rfl
  rw [e] at has hin
  rw [updM_eq] at has hin k
  exact .cons (opT_callB (s := ⟨tm, m⟩) L K A hop hgd hfo hcap has (fun p hp => by rw [hn] at hp; cases hp) (glob_of hgl) hfn hids hin hsh (by rw [hnt]; exact hd)) k

/-- a call that panics -/
theorem opP_callB {gs : List (Nat × List E)} {ops : Array Oper} {s : St} {o : Oper} {fo : Operand} {f : Nat} {caps : List (Nat × Nat × Nat)} {ts : Array TypeId} (L K A : List (Nat × Nat)) (hop : o.op = .call ⟨.value fo, #[], ts⟩) (hgd : gdOf ops s o = .free) (hfo : (s.ev fo).strip = .one (.clo (1048576 + f) caps)) (hcap : capOk s.mem caps = true) {as : List D} {us : Upds} {ch : List PanicEntry} {ms ms' : List (Nat × Blk)}
    (has : ArgsH s.mem (rnIn (appU s.mem us) (L ++ K)) (fun c => isS (lookM ms c)) (capD caps) as us) (hn : ∀ p ∈ needL s [fo], p) (hgl : ∀ x ∈ gs, s.tm (1000000 + x.1) = .one (.eptr x.2)) (hfn : FnP P f gs ms as ch ms')
    (hids : okIds ms ms' L K A = true) (hin : InOk (appU s.mem us) ms (rnIn (appU s.mem us) (L ++ K)) (L ++ K)) (hsh : ShOk ms ms' L) : OpP P X ops o ch s ⟨s.tm, memH (appU s.mem us) ms' L K A⟩ := by
  intro N Q a w ⟨μ, hM, hsz, hdf, hr⟩ hQ
  refine ⟨gd_free hgd a, ?_⟩
  obtain ⟨⟨fn, c, k1, k2, k34⟩, hfn⟩ := hfn
  obtain ⟨k3, k4⟩ := Bool.or_eq_false_iff.1 k34
  obtain ⟨r1, r2, r3, r4⟩ := RM.pubs us s.mem hM (argsH_ok has)
  have hf := strip_rep (ev_rep hr fo) (needs_all hn fo (List.mem_cons_self ..))
  rw [hfo] at hf
  obtain ⟨vs0, hfv, hl0, hcp⟩ := hf
  rw [cloV_ge] at hfv
  obtain ⟨z1, z2⟩ := capD_rep (X := X) (w := w) hcap hl0 hcp
  obtain ⟨hF, hCin, hRc, hInv⟩ := RM.lend r1 hids hin
  let I : Nat → Nat → Prop := fun b o => (¬ X.own b → X.I b o) ∧ (X.own b → ∀ id blk, appU s.mem us id = some blk → μ id = some b → o < blk.pub)
  let μc : Nat → Option Nat := fun c => match lkN (L ++ K) c with | some i => μ i | none => none
  have hrep := argsH_rep (vs := vs0) r1 hCin hInv has ⟨z1, fun i d v hd hv => (z2 i d v hd hv).kept r2⟩ r3
  have hcall : (execOp a.eval o).run P w = .ok (.enter f vs0.toArray) w := by
    have hb : fn.body.isNone = false := by rw [k2]; rfl
    have hne : ¬ (fn.name = "runtime.NumGoroutine") := by simpa using k3
    simp [execOp, hop, resolve, hfv, Deferred.ofValue, invoke, callFunc, k1, hne, k2]
  unfold Oper.wp
  rw [hcall, Oper.upon_enter]
  refine (hfn w vs0.toArray I μc hRc (fun x hx => by
    have h1 := hr (1000000 + x.1)
    rw [hgl x hx, slotV_glob] at h1
    exact eptr_mono hCin (h1.kept r2)) hrep).mono ?_
  rintro e w' ⟨rfl, μf, hMf, hkeep⟩
  obtain ⟨μ', t1, t2, t3, t4⟩ := RM.back r1 hids hin hsh rfl rfl hMf hkeep
  exact hQ w' ⟨μ', t1, hsz, hdf, fun t => (hr t).kept (r2.trans t2)⟩
/-- the same in a plain region -/
theorem callPB (L K A : List (Nat × Nat)) {gs : List (Nat × List E)} {ops : Array Oper} {o : Oper} {rest : List Oper} {tm : Nat → D} {m : Mem} {fo : Operand} {f : Nat} {caps : List (Nat × Nat × Nat)} {ts : Array TypeId} {as : List D} {us : Upds} {ch : List PanicEntry} {ms ms' : List (Nat × Blk)} (hop : o.op = .call ⟨.value fo, #[], ts⟩) (hgd : gdOf ops ⟨tm, m⟩ o = .free) (hfo : ((⟨tm, m⟩ : St).ev fo).strip = .one (.clo (1048576 + f) caps)) (hcap : capOk m caps = true)
    (hfn : FnP P f gs ms as ch ms') (has : ArgsH m (rnIn m (L ++ K)) (fun c => isS (lookM ms c)) (capD caps) as us) (hver : ∀ i, verOf (updM m us) i = verOf m i) (hn : needL ⟨tm, m⟩ [fo] = []) (hgl : gs.map (fun x => tm (1000000 + x.1)) = gs.map fun x => .one (.eptr x.2))
    (hids : okIds ms ms' L K A = true) (hin : InOk (updM m us) ms (rnIn m (L ++ K)) (L ++ K)) (hsh : ShOk ms ms' L) : LexP P X ops ch (o :: rest) ⟨tm, m⟩ ⟨tm, memH (updM m us) ms' L K A⟩ := by
  have e : rnIn m (L ++ K) = rnIn (updM m us) (L ++ K) := by
    funext c
    unfold rnIn
    split
    · rw [hver]
    · rfl
  rw [e] at has hin
  rw [updM_eq] at has hin ⊢
  exact .pan (opP_callB (s := ⟨tm, m⟩) L K A hop hgd hfo hcap has (fun p hp => by rw [hn] at hp; cases hp) (glob_of hgl) hfn hids hin hsh)


theorem opP_panic {ops : Array Oper} {s : St} {o : Oper} {x : Operand} {ty : TypeId} {v : Value} (hop : o.op = .panic x) (hgd : gdOf ops s o = .free) (hx : (s.ev x).strip = .one (.e (.v (.iface ty v)))) (hn : needL s [x] = []) : OpP P X ops o [{ v := .iface ty v, recovered := false }] s s := by
  intro N Q a w ⟨μ, hM, hsz, hdf, hr⟩ hQ
  refine ⟨gd_free hgd a, ?_⟩
  have hf := strip_rep (ev_rep hr x) (needs_all (fun p hp => by rw [hn] at hp; cases hp) x (List.mem_cons_self ..))
  rw [hx] at hf
  have hv : a.eval x = .iface ty v := repV hf
  have hcall : (execOp a.eval o).run P w = .halt (.panic (.iface ty v)) w := by
    simp [execOp, hop, hv, Instr.panic, goPanic]
  unfold Oper.wp
  rw [hcall]
  exact hQ w ⟨μ, hM, hsz, hdf, hr⟩
theorem panicP {ops : Array Oper} {o : Oper} {rest : List Oper} {s : St} {x : Operand} {ty : TypeId} {v : Value} (hop : o.op = .panic x) (hgd : gdOf ops s o = .free) (hx : (s.ev x).strip = .one (.e (.v (.iface ty v)))) (hn : needL s [x] = []) : LexP P X ops [{ v := .iface ty v, recovered := false }] (o :: rest) s s := .pan (opP_panic hop hgd hx hn)

/-! ### drawn regions -/
def St.drop (l : List Nat) (s : St) : St := ⟨fun t => bif inB l t then .any else s.tm t, s.mem⟩
theorem le_drop (l : List Nat) (s : St) : Le X s (s.drop l) := by
  intro a w ⟨μ, hM, hsz, hdf, hr⟩
  refine ⟨μ, hM, hsz, hdf, fun t => ?_⟩
  show RepD _ _ _ (bif inB l t then .any else s.tm t) _
  cases inB l t with
  | true => trivial
  | false => exact hr t
theorem opT_any (hT : TOk P T) {nt : Nat} (hnt : X.nt = nt) {ops : Array Oper} {s : St} {o : Oper} {φ : Prop} {d : D} {t : Nat} (h : stepE T nt ops s o = some ⟨φ, d, []⟩) (hφ : φ) (hd : o.dst = some t) (ha : s.tm t = .any) : OpT P X ops o s s := by
  subst hnt
  have h1 := step_sound (X := X) hT h hφ
  have hle : Le X (s.app o.dst d []) s := by
    intro a w ⟨μ, hM, hsz, hdf, hr⟩
    refine ⟨μ, hM, hsz, hdf, fun t' => ?_⟩
    have h2 := hr t'
    rw [hd] at h2
    by_cases e : t' = t
    · rw [e, ha]; trivial
    · have e' : (s.app (some t) d []).tm t' = s.tm t' := by
        show upd s.tm t d t' = s.tm t'
        unfold upd
        cases hb : Nat.beq t' t with
        | false => rfl
        | true => exact absurd (Nat.eq_of_beq_eq_true hb) e
      rw [e'] at h2
      exact h2
  intro Q a w hR
  have h3 := h1 Q a w hR
  split
  · rename_i hw
    rw [if_pos hw] at h3
    exact Oper.wp_mono (fun a w hr => hle a w hr) h3
  · rename_i hw
    rw [if_neg hw] at h3
    exact hle _ _ h3
/-- what may be done ahead of the operation that panics changes nothing that counts -/
inductive Early (P : Program) (X : Ctx) (ops : Array Oper) (s : St) : List Nat → Prop
  | nil : Early P X ops s []
  | cons {i : Nat} {r : List Nat} {o : Oper} (ho : ops[i]? = some o) (h : OpT P X ops o s s) (k : Early P X ops s r) : Early P X ops s (i :: r)
theorem Early.get {ops : Array Oper} {s : St} {l : List Nat} (h : Early P X ops s l) : ∀ i, inB l i = true → ∃ o, ops[i]? = some o ∧ OpT P X ops o s s := by
  induction h with
  | nil => intro i hi; cases hi
  | @cons i0 r o ho h k ih =>
    intro i hi
    rw [inB, Bool.or_eq_true] at hi
    rcases hi with hi | hi
    · obtain rfl := Nat.eq_of_beq_eq_true hi
      exact ⟨_, ho, h⟩
    · exact ih i hi
def preX (md : Region.Mode) (ops : Array Oper) (k : Nat) (early : List Nat) : Nat → Array Bool → Bool
  | 0, _ => false
  | fuel + 1, listed => !(Region.ready md ops listed).isEmpty && (Region.ready md ops listed).all fun i => Nat.beq i k || (inB early i && preX md ops k early fuel (listed.setIfInBounds i true))
theorem wpAny_pan {md : Region.Mode} {ops : Array Oper} {ch : List PanicEntry} {s s1 : St} {k : Nat} {early : List Nat} {ok : Oper} {Q : Exit → Act → World → Prop} (hk : ops[k]? = some ok) (h : OpP P X ops ok ch s s1) (hE : Early P X ops s early) (hQ : ∀ a w, R X s1 a w → Q (.panic ch) a w) : ∀ (fuel : Nat) (listed : Array Bool) (a : Act) (w : World), R X s a w → preX md ops k early fuel listed = true → wpAny P md ops Q fuel listed a w
  | 0, _, _, _, _, h0 => nomatch h0
  | fuel + 1, listed, a, w, hR, h0 => by
    rw [preX, Bool.and_eq_true, List.all_eq_true] at h0
    refine ⟨fun e => absurd h0.1 (by rw [e]; decide), fun i hi => ?_⟩
    have h1 := h0.2 i hi
    rw [Bool.or_eq_true] at h1
    unfold wpOp
    rcases h1 with h1 | h1
    · obtain rfl := Nat.eq_of_beq_eq_true h1
      rw [hk]
      obtain ⟨q1, q2⟩ := h (wpAny P md ops Q fuel (listed.setIfInBounds i true)) Q a w hR (fun w' => hQ a w')
      simp only
      rw [if_pos q1]
      exact .inl q2
    · rw [Bool.and_eq_true] at h1
      obtain ⟨o, ho, hop⟩ := hE.get i h1.1
      rw [ho]
      have h3 := hop Q a w hR
      simp only
      split
      · rename_i hw
        rw [if_pos hw] at h3
        exact .inl (Oper.wp_mono (fun a w hr => wpAny_pan hk h hE hQ fuel _ a w hr h1.2) h3)
      · rename_i hw
        rw [if_neg hw] at h3
        exact wpAny_pan hk h hE hQ fuel _ _ _ h3 h1.2
theorem tr_drawP (hm : P.follows .mixedOrders = true) {id : Nat} {ops : Array Oper} {ch : List PanicEntry} {s s1 : St} {Q : Exit → St → Prop} (l : List Nat) (k : Nat) (early : List Nat) {ok : Oper} (hk : ops[k]? = some ok) (h : LexP P X ops ch [ok] (s.drop l) s1) (hE : Early P X ops (s.drop l) early)
    (hB : preX .any ops k early ops.size (Array.replicate ops.size false) = true) (hQ : Q (.panic ch) s1) : Tr P X (.region id ops true) s Q := by
  have h : OpP P X ops ok ch (s.drop l) s1 := by
    cases h with
    | pan h => exact h
    | cons _ k => cases k
  intro a w hR
  refine wp_region_any hm ?_
  obtain ⟨μ, hM, hsz, hdf, hr⟩ := le_drop l s a w hR
  obtain ⟨h1, h2⟩ := hM.same (w' := { w with drawn := w.drawn + 1 }) rfl rfl rfl rfl
  exact wpAny_pan hk h hE (fun a w hR => ⟨s1, hQ, hR⟩) _ _ a _ ⟨μ, h1, hsz, hdf, fun t => (hr t).kept h2⟩ hB
end
end Go.Proofs.YtcdifgacoleckaaDoor.Ab
