/- Functions that answer or panic, as the data say. No condition. -/
import Derived.Test.YtcdifgacoleckaaDoorAbP
namespace Go.Proofs.YtcdifgacoleckaaDoor.Ab
open Go Go.RowKit

/-- where q holds the function answers r, elsewhere it panics with ch; what is lent is ms' then -/
def FnR (P : Program) (f : Nat) (gs : List (Nat × List E)) (ms : List (Nat × Blk)) (args : List D) (q : Prop) (r : D) (ms' : List (Nat × Blk)) (ch : List PanicEntry) : Prop :=
  (q → FnH P f gs ms args r ms') ∧ (¬ q → FnP P f gs ms args ch ms')
def EndsR (T : Nat → Option TI) (rs : List ResultVar) (q : Prop) (r : D) (ms ms' : List (Nat × Blk)) (ch : List PanicEntry) (e : Exit) (s : St) : Prop :=
  (q → EndsH T rs r ms ms' e s) ∧ (¬ q → EndsP ch ms ms' e s)

section
variable {P : Program} {T : Nat → Option TI} {X : Ctx}
theorem fn_introR (hT : TOk P T) {f : Nat} {fn : Func} {c : Code} (hf : P.funcs[f]? = some fn) (hb : fn.body = some c) (hname : (fn.name == "runtime.NumGoroutine") = false) {gs : List (Nat × List E)} {args : List D} {q : Prop} {r : D} {ms ms' : List (Nat × Blk)} {ch : List PanicEntry} (hn : args.length ≤ fn.ntmps)
    (hin : okIn ms = true) (hout : okOut ms' ms = true) (h : ∀ X : Ctx, X.nt = fn.ntmps → Tr P X c (St.startH gs ms args) (EndsR T fn.results.toList q r ms ms' ch)) (hbig : Nat.ble fn.ntmps 900000 = true := by rfl) (hlt : Nat.ble 1048576 f = false := by rfl) : FnR P f gs ms args q r ms' ch :=
  ⟨fun hq => fn_introH hT hf hb hname hn hin hout (fun X hX => tr_mono (h X hX) fun _ _ he => he.1 hq) hbig hlt,
   fun hq => fn_introP hf hb hname hn hin hout (fun X hX => tr_mono (h X hX) fun _ _ he => he.2 hq) hbig hlt⟩
theorem FnH.toR {f : Nat} {gs : List (Nat × List E)} {ms : List (Nat × Blk)} {args : List D} {q : Prop} {r : D} {ms' : List (Nat × Blk)} {ch : List PanicEntry} (h : FnH P f gs ms args r ms') (hq : q) : FnR P f gs ms args q r ms' ch := ⟨fun _ => h, fun n => absurd hq n⟩
theorem FnP.toR {f : Nat} {gs : List (Nat × List E)} {ms : List (Nat × Blk)} {args : List D} {q : Prop} {r : D} {ms' : List (Nat × Blk)} {ch : List PanicEntry} (h : FnP P f gs ms args ch ms') (hq : ¬ q) : FnR P f gs ms args q r ms' ch := ⟨fun n => absurd n hq, fun _ => h⟩

/-- a plain region: its first k operations go well, the next one panics -/
theorem tr_regionK {id : Nat} {ops : Array Oper} {ch : List PanicEntry} {s s1 s2 : St} {Q : Exit → St → Prop} (k : Nat) (h : Lex P X ops (ops.toList.take k) s s1) (h2 : LexP P X ops ch (ops.toList.drop k) s1 s2) (hQ : Q (.panic ch) s2) : Tr P X (.region id ops false) s Q := by
  refine tr_regionP (ch := ch) (s' := s2) ?_ hQ
  have key : ∀ (l : List Oper) (s t : St), Lex P X ops l s t → LexP P X ops ch (ops.toList.drop k) t s2 → LexP P X ops ch (l ++ ops.toList.drop k) s s2 := by
    intro l s t q
    induction q with
    | nil s => exact fun h => h
    | cons a _ ih => exact fun h => .cons a (ih h)
  have := key _ s s1 h h2
  rwa [List.take_append_drop] at this
end
/-- a call of a variable's method that lends, in a region that draws -/
theorem callBD {P : Program} (L K A : List (Nat × Nat)) {T : Nat → Option TI} {gs : List (Nat × List E)} {nt : Nat} {ops : Array Oper} {o : Oper} {rest : List Oper} {tm : Nat → D} {m : Mem} {fo : Operand} {f : Nat} {caps : List (Nat × Nat × Nat)} {ts : Array TypeId} {as : List D} {r : D} {ms ms' : List (Nat × Blk)} {fps : List FP} {s'' : St} (hop : o.op = .call ⟨.value fo, #[], ts⟩) (hgd : gdOf ops ⟨tm, m⟩ o = .free) (hfo : ((⟨tm, m⟩ : St).ev fo).strip = .one (.clo (1048576 + f) caps)) (hcap : capOk m caps = true)
    (hfn : FnH P f gs ms as r ms') (has : ArgsH m (rnIn m (L ++ K)) (fun c => isS (lookM ms c)) (capD caps) as []) (hn : needL ⟨tm, m⟩ [fo] = []) (hd : dstOk nt o.dst = true) {rd : List Nat} (hrd : (fIds (rdsL ⟨tm, m⟩ o.op.operands.toList) fun rd => some rd) = some rd) (hgl : gs.map (fun x => tm (1000000 + x.1)) = gs.map fun x => .one (.eptr x.2))
    (hids : okIds ms ms' L K A = true) (hin : InOk m ms (rnIn m (L ++ K)) (L ++ K)) (hsh : ShOk ms ms' L) (k : LexD P T nt ops rest ⟨putO tm o.dst (r.rn (rnOut m L A)), memH m ms' L K A⟩ fps s'') : LexD P T nt ops (o :: rest) ⟨tm, m⟩ ((dstId o.dst :: (idsH L K A ++ rd), idsH L K A) :: fps) s'' := by
  rw [fIds_eq] at hrd
  cases hrd
  have hfm : fo ∈ o.op.operands := by rw [hop]; simp [Op.operands, Call.operands]
  have hput : ∀ (s : St) (d : D) (us : Upds), s.app o.dst d us = ⟨putO s.tm o.dst d, appU s.mem us⟩ := fun s d us => by
    unfold St.app putO
    cases o.dst <;> rfl
  have hU : ∀ m' : Mem, (∀ k, inB (idsH L K A) k = true → m k = m' k) → AgL m m' L ∧ AgL m m' A ∧ AgL m m' K := fun m' h => by
    refine ⟨fun y hy => h _ (inB_mem ?_), fun y hy => h _ (inB_mem ?_), fun y hy => h _ (inB_mem ?_)⟩
    all_goals
      unfold idsH
      refine List.mem_map.2 ⟨y, ?_, rfl⟩
      simp [hy]
  have inBapp : ∀ (a b : List Nat) (k : Nat), inB a k = true → inB (a ++ b) k = true := fun a b k => by
    induction a with
    | nil => intro h; cases h
    | cons x a ih =>
      intro h
      simp only [List.cons_append, inB, Bool.or_eq_true] at h ⊢
      exact h.imp id ih
  refine .cons (d := r.rn (rnOut m L A)) (us := updsH m ms' L K A) ⟨.gen fun s' hS hF X hX => ?_, fun x hx k hk => ?_, inB_mem (List.mem_cons_self ..), fun u hu => ?_⟩ ?_
  · have hF' : ∀ k, inB (idsH L K A) k = true → m k = s'.mem k := fun k hk => hF k (by
      simp only [inB, Bool.or_eq_true]
      exact .inr (inBapp _ _ k hk))
    obtain ⟨aL, aA, aK⟩ := hU s'.mem hF'
    have aLK : AgL m s'.mem (L ++ K) := fun y hy => (List.mem_append.1 hy).elim (aL y) (aK y)
    have hrn := rnIn_ag aLK
    have hro := rnOut_ag aL aA
    have hus : updsH m ms' L K A = updsH s'.mem ms' L K A := by
      unfold updsH
      rw [goneU_ag aK, comeU_ag hro aA, lendU_ag hro aL]
    have hfo' : (s'.ev fo).strip = .one (.clo (1048576 + f) caps) := by rw [← hS.ev fo hfm]; exact hfo
    have hA0 : Alk m s'.mem (.one (.clo (1048576 + f) caps)) := hfo ▸ alk_strip (hS.mem fo (rdO_call hop hfm))
    have hA0 : ∀ c ∈ caps, m c.1 = s'.mem c.1 := fun c hc => hA0 c.1 (by simp only [idsD, ids0]; exact List.mem_map_of_mem hc)
    rw [hput, hus, ← memH_eq hids, hro]
    have := opT_callB (P := P) (X := X) (ops := ops) (s := s') (o := o) (us := []) (gs := gs) (r := r) (ms := ms) (ms' := ms') (as := as) L K A hop (by rw [← gd_congr hS]; exact hgd) hfo' (capOk_ag hA0 hcap) (by
      show ArgsH s'.mem (rnIn s'.mem (L ++ K)) _ _ _ _
      rw [← hrn]
      exact argsH_ag has fun d hd => capD_alk hA0 d hd) (by
      rw [← needL_congr (s := ⟨tm, m⟩) fun x hx => by
        rw [List.mem_singleton.1 hx]; exact hS.ev _ hfm, hn]
      exact fun p hp => nomatch hp) (fun x hx => (hS.glob x.1).symm.trans (glob_of hgl x hx)) hfn hids (by
      show InOk s'.mem ms (rnIn s'.mem (L ++ K)) (L ++ K)
      rw [← hrn]
      exact inOk_ag aLK hin) hsh (by rw [hX]; exact hd)
    exact this
  · refine inB_mem (List.mem_cons_of_mem _ (List.mem_append_right _ (rdsL_ok x (by simpa using rdO_sub hx) k hk)))
  · refine inB_mem ?_
    unfold updsH at hu
    unfold idsH
    rw [List.map_append, List.map_append]
    rcases List.mem_append.1 hu with hu | hu
    · obtain ⟨y, hy, rfl⟩ := mem_goneU hu
      exact List.mem_append_left _ (List.mem_map_of_mem (f := (·.2)) hy)
    rcases List.mem_append.1 hu with hu | hu
    · obtain ⟨y, hy, b, _, rfl⟩ := mem_comeU hu
      exact List.mem_append_right _ (List.mem_append_left _ (List.mem_map_of_mem (f := (·.2)) hy))
    · obtain ⟨y, hy, b, _, rfl⟩ := mem_lendU hu
      exact List.mem_append_right _ (List.mem_append_right _ (List.mem_map_of_mem (f := (·.2)) hy))
  · rw [hput]
    show LexD P T nt ops rest ⟨putO tm o.dst _, appU m (updsH m ms' L K A)⟩ fps s''
    rw [← memH_eq hids]
    exact k

/-! ### a drawn region of which one operation panics, with what must stand ahead of it -/
inductive Chain (P : Program) (X : Ctx) (ops : Array Oper) (k : Nat) (ch : List PanicEntry) (early : List Nat) : List Nat → St → St → Prop
  | pan {s s1 : St} {o : Oper} (hk : ops[k]? = some o) (h : LexP P X ops ch [o] s s1) (hE : Early P X ops s early) : Chain P X ops k ch early [] s s1
  | cons {i : Nat} {r : List Nat} {s s1 s2 : St} {o : Oper} (ho : ops[i]? = some o) (h : OpT P X ops o s s1) (hE : Early P X ops s early) (c : Chain P X ops k ch early r s1 s2) : Chain P X ops k ch early (i :: r) s s2
def preM (md : Region.Mode) (ops : Array Oper) (k : Nat) (early : List Nat) : Nat → List Nat → Array Bool → Bool
  | 0, _, _ => false
  | fuel + 1, mand, listed => !(Region.ready md ops listed).isEmpty && (Region.ready md ops listed).all fun i =>
    (match mand with
      | [] => Nat.beq i k
      | j :: r => Nat.beq i j && preM md ops k early fuel r (listed.setIfInBounds i true)) || (inB early i && preM md ops k early fuel mand (listed.setIfInBounds i true))
theorem wpAny_chain {P : Program} {X : Ctx} {md : Region.Mode} {ops : Array Oper} {ch : List PanicEntry} {s1 : St} {k : Nat} {early : List Nat} {Q : Exit → Act → World → Prop} (hQ : ∀ a w, R X s1 a w → Q (.panic ch) a w) : ∀ (fuel : Nat) (mand : List Nat) (s : St) (listed : Array Bool) (a : Act) (w : World), Chain P X ops k ch early mand s s1 → R X s a w → preM md ops k early fuel mand listed = true → wpAny P md ops Q fuel listed a w
  | 0, _, _, _, _, _, _, _, h0 => nomatch h0
  | fuel + 1, mand, s, listed, a, w, hC, hR, h0 => by
    rw [preM, Bool.and_eq_true, List.all_eq_true] at h0
    refine ⟨fun e => absurd h0.1 (by rw [e]; decide), fun i hi => ?_⟩
    have h1 := h0.2 i hi
    have hE : Early P X ops s early := by cases hC <;> assumption
    rw [Bool.or_eq_true] at h1
    have go : ∀ (o : Oper) (t : St) (m : List Nat), ops[i]? = some o → OpT P X ops o s t → Chain P X ops k ch early m t s1 → preM md ops k early fuel m (listed.setIfInBounds i true) = true → wpOp P ops Q i (wpAny P md ops Q fuel (listed.setIfInBounds i true)) a w := by
      intro o t m ho hop hc hb
      unfold wpOp
      rw [ho]
      have h3 := hop Q a w hR
      simp only
      split
      · rename_i hw
        rw [if_pos hw] at h3
        exact .inl (Oper.wp_mono (fun a w hr => wpAny_chain hQ fuel m t _ a w hc hr hb) h3)
      · rename_i hw
        rw [if_neg hw] at h3
        exact wpAny_chain hQ fuel m t _ _ _ hc h3 hb
    rcases h1 with h1 | h1
    · cases hC with
      | @pan _ _ o hk h _ =>
        obtain rfl := Nat.eq_of_beq_eq_true h1
        unfold wpOp
        rw [hk]
        have h : OpP P X ops o ch s s1 := by
          cases h with
          | pan h => exact h
          | cons _ k => cases k
        obtain ⟨q1, q2⟩ := h (wpAny P md ops Q fuel (listed.setIfInBounds i true)) Q a w hR (fun w' => hQ a w')
        simp only
        rw [if_pos q1]
        exact .inl q2
      | cons ho h _ c =>
        rw [Bool.and_eq_true] at h1
        obtain rfl := Nat.eq_of_beq_eq_true h1.1
        exact go _ _ _ ho h c h1.2
    · rw [Bool.and_eq_true] at h1
      obtain ⟨o, ho, hop⟩ := hE.get i h1.1
      exact go o s mand ho hop hC h1.2
theorem tr_drawM {P : Program} {X : Ctx} (hm : P.follows .mixedOrders = true) {id : Nat} {ops : Array Oper} {ch : List PanicEntry} {s s1 : St} {Q : Exit → St → Prop} (l : List Nat) (k : Nat) (early mand : List Nat) (h : Chain P X ops k ch early mand (s.drop l) s1)
    (hB : preM .any ops k early ops.size mand (Array.replicate ops.size false) = true) (hQ : Q (.panic ch) s1) : Tr P X (.region id ops true) s Q := by
  intro a w hR
  refine wp_region_any hm ?_
  obtain ⟨μ, hM, hsz, hdf, hr⟩ := le_drop l s a w hR
  obtain ⟨h1, h2⟩ := hM.same (w' := { w with drawn := w.drawn + 1 }) rfl rfl rfl rfl
  exact wpAny_chain (fun a w hR => ⟨s1, hQ, hR⟩) _ mand _ _ a _ h ⟨μ, h1, hsz, hdf, fun t => (hr t).kept h2⟩ hB
theorem opT_step {P : Program} {X : Ctx} {T : Nat → Option TI} (hT : TOk P T) {nt : Nat} (hnt : X.nt = nt) {ops : Array Oper} {s : St} {o : Oper} {φ : Prop} {d : D} {us : Upds} (h : stepE T nt ops s o = some ⟨φ, d, us⟩) (hφ : φ) : OpT P X ops o s (s.app o.dst d us) := by
  subst hnt
  exact step_sound (X := X) hT h hφ
end Go.Proofs.YtcdifgacoleckaaDoor.Ab
