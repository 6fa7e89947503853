/- Steps of abstract states; regions in the order of the text. No condition. -/
import Derived.Test.YtcjeeoimjkhijaaDoorAb14
namespace Go.Proofs.YtcjeeoimjkhijaaDoor.Ab
open Go Go.RowKit

def constD (v : Value) : D :=
  match v with
  | .slice none 0 0 => .one .nil
  | .agg _ => .any
  | .tuple _ => .any
  | v => .one (.e (.v v))

def St.ev (s : St) : Operand → D
  | .tmp t => bif Nat.blt t 900000 then s.tm t else .any
  | .const v => constD v
  | .global g => s.tm (1000000 + g)
  | .func f => .one (.clo f [])

theorem constD_rep {p : Rho} {C : Nat → Nat → Value → Prop} {w : World} (v : Value) : RepD p C w (constD v) v := by
  unfold constD
  split
  · rfl
  · trivial
  · trivial
  · rename_i h1 h2 h3
    refine RepE.v _ ?_
    cases v <;> first | rfl | exact absurd rfl (h2 _) | exact absurd rfl (h3 _)

theorem ev_rep {X : Ctx} {s : St} {a : Act} {w : World} {μ : Nat → Option Nat} (h : ∀ t, RepD ⟨s.mem, μ⟩ (CW X ⟨s.mem, μ⟩ w) w (s.tm t) (slotV X.xg a.tmps t)) (x : Operand) : RepD ⟨s.mem, μ⟩ (CW X ⟨s.mem, μ⟩ w) w (s.ev x) (a.eval x) := by
  cases x with
  | tmp t =>
    show RepD _ _ _ (bif Nat.blt t 900000 then s.tm t else .any) (a.tmps.getD t undef)
    cases hb : Nat.blt t 900000 with
    | false => trivial
    | true =>
      have := h t
      rw [slotV_lt (Nat.blt_eq.mp hb)] at this
      exact this
  | const v => exact constD_rep v
  | global g =>
    have := h (1000000 + g)
    rw [slotV_glob] at this
    exact this
  | func f => exact ⟨[], rfl, rfl, fun i c u h => nomatch h⟩

def D.strip : D → D
  | .gd _ d => d
  | d => d
def D.need : D → Prop
  | .gd q _ => q
  | _ => True
theorem strip_rep {p : Rho} {C : Nat → Nat → Value → Prop} {w : World} {d : D} {v : Value} (h : RepD p C w d v) (hn : d.need) : RepD p C w d.strip v := by
  cases d with
  | gd q d => exact h.1 hn
  | _ => exact h

/-- the conditions under which operands hold what they say -/
def needL (s : St) : List Operand → List Prop
  | [] => []
  | x :: r =>
    match s.ev x with
    | .gd q _ => q :: needL s r
    | _ => needL s r
def conj (l : List Prop) (φ : Prop) : Prop :=
  match l with
  | [] => φ
  | p :: r => p ∧ conj r φ
theorem conj_iff {l : List Prop} {φ : Prop} : conj l φ ↔ (∀ p ∈ l, p) ∧ φ := by
  induction l with
  | nil => simp [conj]
  | cons p r ih => rw [conj, ih, List.forall_mem_cons, and_assoc]
theorem needs_all {s : St} : ∀ {l : List Operand}, (∀ p ∈ needL s l, p) → ∀ x ∈ l, (s.ev x).need
  | [], _, x, hx => by cases hx
  | y :: r, h, x, hx => by
    rw [needL] at h
    rcases List.mem_cons.1 hx with rfl | hx
    · split at h
      · rename_i q d he
        rw [he]
        exact h q (by simp)
      · rename_i he
        cases hd : s.ev x with
        | gd q d => exact absurd hd (he q d)
        | _ => trivial
    · split at h
      · exact needs_all (fun p hp => h p (by simp [hp])) x hx
      · exact needs_all h x hx
def needO (d : D) : Option Prop :=
  match d with
  | .gd q _ => some q
  | _ => none
theorem needO_ok {d : D} (h : ∀ q, needO d = some q → q) : d.need := by
  cases d with
  | gd q d => exact h q rfl
  | _ => trivial

/-- the guard of an operation: none, or the condition under which it is carried out -/
inductive Gd where
  | free
  | iff (q : Prop)
  | bad
def gdOf (ops : Array Oper) (s : St) (o : Oper) : Gd :=
  match o.guard with
  | none => .free
  | some (g, b) =>
    match ops[g]? with
    | some og =>
      match og.dst with
      | some t =>
        match s.tm t with
        | .one (.e (.v (.bool c))) => .iff (c = b)
        | .gd q (.one (.e (.v (.bool c)))) => .iff (q ∧ c = b)
        | _ => .bad
      | none => .bad
    | none => .bad

theorem undef_not_bool (c : Bool) : undef ≠ .bool c := by intro h; cases h

theorem gd_free {ops : Array Oper} {s : St} {o : Oper} (h : gdOf ops s o = .free) (a : Act) : Region.wanted o (yielded ops a.tmps) = true := by
  unfold gdOf at h
  split at h
  · rename_i hg
    simp [Region.wanted, hg]
  · split at h
    · split at h
      · split at h <;> cases h
      · cases h
    · cases h
theorem slotV_bool {x : Nat → Nat} {tmps : Array Value} {t : Nat} {c : Bool} (h : slotV x tmps t = .bool c) : tmps[t]? = some (.bool c) := by
  unfold slotV at h
  cases hb : Nat.ble 1000000 t with
  | true => rw [hb] at h; cases h
  | false =>
    rw [hb] at h
    cases hb2 : Nat.ble 900000 t with
    | true => rw [hb2] at h; cases h
    | false =>
    rw [hb2] at h
    have h : tmps.getD t undef = .bool c := h
    cases ht' : tmps[t]? with
    | none => rw [Array.getD_eq_getD_getElem?, ht'] at h; exact absurd h (undef_not_bool c)
    | some u => rw [Array.getD_eq_getD_getElem?, ht'] at h; rw [show u = .bool c from h]
theorem slotV_undef {x : Nat → Nat} {tmps : Array Value} {t : Nat} (h : slotV x tmps t = undef) : tmps[t]? = none ∨ tmps[t]? = some undef := by
  unfold slotV at h
  cases hb : Nat.ble 1000000 t with
  | true => rw [hb] at h; cases h
  | false =>
    rw [hb] at h
    cases hb2 : Nat.ble 900000 t with
    | true => rw [hb2] at h; cases h
    | false =>
    rw [hb2] at h
    have h : tmps.getD t undef = undef := h
    cases ht' : tmps[t]? with
    | none => exact .inl rfl
    | some u => rw [Array.getD_eq_getD_getElem?, ht'] at h; rw [show u = undef from h]; exact .inr rfl
theorem gd_iff {ops : Array Oper} {s : St} {o : Oper} {q : Prop} {x : Nat → Nat} (h : gdOf ops s o = .iff q) {p : Rho} {C : Nat → Nat → Value → Prop} {w : World} {a : Act} (hr : ∀ t, RepD p C w (s.tm t) (slotV x a.tmps t)) :
    (Region.wanted o (yielded ops a.tmps) = true ↔ q) := by
  unfold gdOf at h
  split at h
  · cases h
  · rename_i g b hg
    split at h
    · rename_i og hog
      split at h
      · rename_i t ht
        have hw : Region.wanted o (yielded ops a.tmps) = (yielded ops a.tmps g == some b) := by simp [Region.wanted, hg]
        have hy : yielded ops a.tmps g = match a.tmps[t]? with | some (.bool c) => some c | _ => none := by
          simp only [yielded, hog, Option.bind_some, ht]
          rfl
        have h1 := hr t
        split at h
        · rename_i c hc
          cases h
          rw [hc] at h1
          have := repV h1
          have hs : a.tmps[t]? = some (.bool c) := slotV_bool this
          rw [hw, hy, hs]
          simp
        · rename_i q' c hc
          cases h
          rw [hc] at h1
          by_cases hq : q'
          · have := repV (h1.1 hq)
            have hs : a.tmps[t]? = some (.bool c) := slotV_bool this
            rw [hw, hy, hs]
            simp [hq]
          · have := h1.2 hq
            have hs : yielded ops a.tmps g = none := by
              rw [hy]
              rcases slotV_undef this with ht' | ht' <;> rw [ht'] <;> rfl
            rw [hw, hs]
            simp [hq]
        · cases h
      · cases h
    · cases h

def pickE (s : St) (c x y : Operand) : Option Ef :=
  match (s.ev c).strip, (s.ev x).strip, (s.ev y).strip with
  | .one (.e (.v (.bool cv))), .one (.e (.v (.bool xv))), .one (.e (.v (.bool yv))) =>
    match needO (s.ev c), needO (s.ev x), needO (s.ev y) with
    | none, none, none => some ⟨True, .v (.bool (bif cv then xv else yv)), []⟩
    | none, none, some q => some ⟨cv = false → q, .v (.bool (bif cv then xv else yv)), []⟩
    | none, some q, none => some ⟨cv = true → q, .v (.bool (bif cv then xv else yv)), []⟩
    | some q, none, none => some ⟨q, .v (.bool (bif cv then xv else yv)), []⟩
    | some r, none, some q => some ⟨r ∧ (cv = false → q), .v (.bool (bif cv then xv else yv)), []⟩
    | some r, some q, none => some ⟨r ∧ (cv = true → q), .v (.bool (bif cv then xv else yv)), []⟩
    | _, _, _ => none
  | _, _, _ => none
theorem pickE_ok {s : St} {c x y : Operand} {ef : Ef} (h : pickE s c x y = some ef) : ∃ cv xv yv : Bool, (s.ev c).strip = .v (.bool cv) ∧ (s.ev x).strip = .v (.bool xv) ∧ (s.ev y).strip = .v (.bool yv) ∧
    ef.val = .v (.bool (bif cv then xv else yv)) ∧ ef.upds = [] ∧ (ef.φ → (s.ev c).need ∧ (cv = true → (s.ev x).need) ∧ (cv = false → (s.ev y).need)) := by
  unfold pickE at h
  split at h
  · rename_i cv xv yv hc hx hy
    refine ⟨cv, xv, yv, hc, hx, hy, ?_⟩
    have key : ∀ {d : D}, needO d = none → d.need := fun {d} h => needO_ok fun q hq => by rw [h] at hq; cases hq
    have key' : ∀ {d : D} {q : Prop}, needO d = some q → q → d.need := fun {d q} h hq => needO_ok fun q' hq' => by rw [h] at hq'; cases hq'; exact hq
    split at h
    · rename_i h1 h2 h3; cases h; exact ⟨rfl, rfl, fun _ => ⟨key h1, fun _ => key h2, fun _ => key h3⟩⟩
    · rename_i h1 h2 h3; cases h; exact ⟨rfl, rfl, fun f => ⟨key h1, fun _ => key h2, fun e => key' h3 (f e)⟩⟩
    · rename_i h1 h2 h3; cases h; exact ⟨rfl, rfl, fun f => ⟨key h1, fun e => key' h2 (f e), fun _ => key h3⟩⟩
    · rename_i h1 h2 h3; cases h; exact ⟨rfl, rfl, fun f => ⟨key' h1 f, fun _ => key h2, fun _ => key h3⟩⟩
    · rename_i h1 h2 h3; cases h; exact ⟨rfl, rfl, fun f => ⟨key' h1 f.1, fun _ => key h2, fun e => key' h3 (f.2 e)⟩⟩
    · rename_i h1 h2 h3; cases h; exact ⟨rfl, rfl, fun f => ⟨key' h1 f.1, fun e => key' h2 (f.2 e), fun _ => key h3⟩⟩
    · cases h
  · cases h

def rawE (T : Nat → Option TI) (s : St) (id : Nat) (op : Op) : Option Ef :=
  match op with
  | .pick c x y => pickE s c x y
  | op =>
    match eff T s.mem id op (fun x => (s.ev x).strip) with
    | some ⟨φ, d, us⟩ =>
      match needL s op.operands.toList with
      | [] => some ⟨φ, d, us⟩
      | [p] => some ⟨p ∧ φ, d, us⟩
      | [p, q] => some ⟨p ∧ q ∧ φ, d, us⟩
      | l => some ⟨conj l φ, d, us⟩
    | none => none
theorem rawE_ok {T : Nat → Option TI} {s : St} {id : Nat} {op : Op} (hp : ∀ c x y, op ≠ .pick c x y) {ef : Ef} (h : rawE T s id op = some ef) : ∃ φ d us, eff T s.mem id op (fun x => (s.ev x).strip) = some ⟨φ, d, us⟩ ∧ ef = ⟨conj (needL s op.operands.toList) φ, d, us⟩ := by
  unfold rawE at h
  split at h
  · exact absurd rfl (hp _ _ _)
  · split at h
    · rename_i φ d us he
      refine ⟨φ, d, us, he, ?_⟩
      split at h
      · rename_i hn; rw [hn]; cases h; rfl
      · rename_i hn; rw [hn]; cases h; rfl
      · rename_i hn; rw [hn]; cases h; rfl
      · cases h; rfl
    · cases h

def dstOk (nt : Nat) : Option Tmp → Bool
  | some t => Nat.blt t nt
  | none => true
def dstId : Option Tmp → Nat
  | some t => t
  | none => 0

def stepI (T : Nat → Option TI) (ops : Array Oper) (s : St) (o : Oper) (id : Nat) : Option Ef :=
  match gdOf ops s o with
  | .bad => none
  | .free => rawE T s id o.op
  | .iff q =>
    match rawE T s id o.op with
    | some ⟨φ, d, []⟩ => some ⟨q → φ, .gd q d, []⟩
    | _ => none
/-- the effect of one operation -/
def stepE (T : Nat → Option TI) (nt : Nat) (ops : Array Oper) (s : St) (o : Oper) : Option Ef :=
  match o.dst with
  | some t => bif Nat.blt t nt then stepI T ops s o t else none
  | none => stepI T ops s o 0
theorem stepE_I {T : Nat → Option TI} {nt : Nat} {ops : Array Oper} {s : St} {o : Oper} {ef : Ef} (h : stepE T nt ops s o = some ef) : dstOk nt o.dst = true ∧ ∃ id, stepI T ops s o id = some ef := by
  unfold stepE at h
  split at h
  · rename_i t ht
    cases hb : Nat.blt t nt with
    | false => rw [hb] at h; cases h
    | true => rw [hb] at h; rw [ht]; exact ⟨hb, t, h⟩
  · rename_i ht; rw [ht]; exact ⟨rfl, 0, h⟩

def St.app (s : St) (dst : Option Tmp) (d : D) (us : Upds) : St :=
  ⟨match dst with | some t => upd s.tm t d | none => s.tm, appU s.mem us⟩

/-- what is shown of one operation: from the state s it leads to s' -/
def OpT (P : Program) (X : Ctx) (ops : Array Oper) (o : Oper) (s s' : St) : Prop :=
  ∀ (Q : Exit → Act → World → Prop) (a : Act) (w : World), R X s a w → if Region.wanted o (yielded ops a.tmps) then o.wp P a w (R X s') Q else R X s' (a.put o.dst undef) w

section
variable {P : Program} {T : Nat → Option TI} {X : Ctx}

theorem put_rep {s : St} {p p' : Rho} {w w' : World} {a : Act} {dst : Option Tmp} {d : D} {v : Value} (hr : ∀ t, RepD p (CW X p w) w (s.tm t) (slotV X.xg a.tmps t)) (hK : Kept p (CW X p w) w p' (CW X p' w') w') (hv : RepD p' (CW X p' w') w' d v) (hsz : a.tmps.size = X.nt) (hd : dstOk X.nt dst = true) (us : Upds) :
    ∀ t, RepD p' (CW X p' w') w' ((s.app dst d us).tm t) (slotV X.xg (a.put dst v).tmps t) := by
  intro t
  cases dst with
  | none => exact (hr t).kept hK
  | some t' =>
    have hlt' : t' < X.nt := Nat.blt_eq.mp hd
    have hlt : t' < a.tmps.size := by rw [hsz]; exact hlt'
    by_cases ht : t = t'
    · subst ht
      simp only [St.app, upd_same, Act.put]
      rw [slotV_lt (Nat.lt_of_lt_of_le hlt' X.big), Array.getD_eq_getD_getElem?, Array.getElem?_setIfInBounds_self, if_pos hlt]
      exact hv
    · simp only [St.app, upd_ne _ _ ht, Act.put]
      have := (hr t).kept hK
      have e : slotV X.xg (a.tmps.setIfInBounds t' v) t = slotV X.xg a.tmps t := by
        unfold slotV
        rw [Array.getD_eq_getD_getElem?, Array.getD_eq_getD_getElem?, Array.getElem?_setIfInBounds_ne (Ne.symm ht)]
      rw [e]
      exact this

theorem rawE_sound (hT : TOk P T) {s : St} {id : Nat} {o : Oper} {ef : Ef} (h : rawE T s id o.op = some ef) (hφ : ef.φ) {a : Act} {w : World} {μ : Nat → Option Nat} (hM : RM X ⟨s.mem, μ⟩ w) (hr : ∀ t, RepD ⟨s.mem, μ⟩ (CW X ⟨s.mem, μ⟩ w) w (s.tm t) (slotV X.xg a.tmps t)) :
    Goes P X ⟨s.mem, μ⟩ w o a.eval ef := by
  by_cases hpk : ∃ c x y, o.op = .pick c x y
  · obtain ⟨c, x, y, ho⟩ := hpk
    rw [ho] at h
    obtain ⟨cv, xv, yv, hc, hx, hy, e1, e2, e3⟩ := pickE_ok (h : pickE s c x y = some ef)
    obtain ⟨f1, f2, f3⟩ := e3 hφ
    have e4 := strip_rep (ev_rep hr c) f1
    rw [hc] at e4
    have hcv := repV e4
    refine ⟨.bool (bif cv then xv else yv), w, μ, .inl ?_, by rw [e2]; exact hM, by rw [e2]; exact Kept.rfl', by rw [e1]; exact repV_mk rfl⟩
    simp only [execOp, ho, hcv, asBool]
    cases cv with
    | true =>
      have e2 := strip_rep (ev_rep hr x) (f2 rfl)
      rw [hx] at e2
      have := repV e2
      simp [this]
    | false =>
      have e2 := strip_rep (ev_rep hr y) (f3 rfl)
      rw [hy] at e2
      have := repV e2
      simp [this]
  · obtain ⟨φ, d, us, he, rfl⟩ := rawE_ok (fun c x y e => hpk ⟨c, x, y, e⟩) h
    obtain ⟨f1, f2⟩ := conj_iff.1 hφ
    have := eff_sound (ef := ⟨φ, d, us⟩) (p := ⟨s.mem, μ⟩) (ρ := a.eval) hT hM (fun x hx => strip_rep (ev_rep hr x) (needs_all f1 x (by simpa using hx))) he f2
    exact this

theorem goes_wp {s : St} {o : Oper} {ef : Ef} {a : Act} {w : World} {μ : Nat → Option Nat} (hr : ∀ t, RepD ⟨s.mem, μ⟩ (CW X ⟨s.mem, μ⟩ w) w (s.tm t) (slotV X.xg a.tmps t)) (hsz : a.tmps.size = X.nt) (hdf : a.defers = []) (hd : dstOk X.nt o.dst = true)
    (h : Goes P X ⟨s.mem, μ⟩ w o a.eval ef) (Q : Exit → Act → World → Prop) : o.wp P a w (R X (s.app o.dst ef.val ef.upds)) Q := by
  obtain ⟨v, w', μ', hrun, h1, h2, h3⟩ := h
  have hR : R X (s.app o.dst ef.val ef.upds) (a.put o.dst v) w' := ⟨μ', h1, by cases o.dst <;> simp [Act.put, hsz], by cases o.dst <;> exact hdf, put_rep hr h2 h3 hsz hd ef.upds⟩
  unfold Oper.wp
  rcases hrun with hrun | ⟨hrun, rfl⟩
  · rw [hrun]; exact hR
  · rw [hrun]; exact hR

theorem step_sound (hT : TOk P T) {ops : Array Oper} {s : St} {o : Oper} {ef : Ef} (h : stepE T X.nt ops s o = some ef) (hφ : ef.φ) : OpT P X ops o s (s.app o.dst ef.val ef.upds) := by
  intro Q a w ⟨μ, hM, hsz, hdf, hr⟩
  obtain ⟨hd, id, h⟩ := stepE_I h
  unfold stepI at h
  split at h
  · cases h
  · rename_i hg
    rw [if_pos (gd_free hg a)]
    exact goes_wp hr hsz hdf hd (rawE_sound hT h hφ hM hr) Q
  · rename_i q hg
    have hiff := gd_iff hg hr
    split at h
    · rename_i φ d hraw
      cases h
      by_cases hq : q
      · rw [if_pos (hiff.2 hq)]
        have := rawE_sound hT hraw (hφ hq) hM hr
        obtain ⟨v, w', μ', k1, k2, k3, k4⟩ := this
        exact goes_wp (ef := ⟨q → φ, .gd q d, []⟩) hr hsz hdf hd ⟨v, w', μ', k1, k2, k3, fun _ => k4, fun hn => absurd hq hn⟩ Q
      · rw [if_neg (fun hw => hq (hiff.1 hw))]
        exact ⟨μ, hM, by cases o.dst <;> simp [Act.put, hsz], by cases o.dst <;> exact hdf, put_rep (d := .gd q d) (v := undef) hr Kept.rfl' ⟨fun h => absurd h hq, fun _ => rfl⟩ hsz hd []⟩
    · cases h
end
end Go.Proofs.YtcjeeoimjkhijaaDoor.Ab
