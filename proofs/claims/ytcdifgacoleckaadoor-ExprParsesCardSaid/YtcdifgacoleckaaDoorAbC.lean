/- Steps of abstract states; regions in the order of the text. No condition. -/
import Derived.Test.YtcdifgacoleckaaDoorAbB
namespace Go.Proofs.YtcdifgacoleckaaDoor.Ab
open Go Go.RowKit

def constD (v : Value) : D :=
  match v with
  | .slice none 0 0 => .one .nil
  | .agg _ => .any
  | .tuple _ => .any
  | v => .one (.e (.v v))

def St.ev (s : St) : Operand → D
  | .tmp t => bif Nat.blt t 900000 then s.tm t else .any
  | .const v => constD v
  | .global g => s.tm (1000000 + g)
  | .func f => bif Nat.ble 1048576 f then .any else .one (.clo f [])

theorem constD_rep {p : Rho} {C : Nat → Nat → Value → Prop} {w : World} (v : Value) : RepD p C w (constD v) v := by
  unfold constD
  split
  · rfl
  · trivial
  · trivial
  · rename_i h1 h2 h3
    refine RepE.v _ ?_
    cases v <;> first | rfl | exact absurd rfl (h2 _) | exact absurd rfl (h3 _)

theorem ev_rep {X : Ctx} {s : St} {a : Act} {w : World} {μ : Nat → Option Nat} (h : ∀ t, RepD ⟨s.mem, μ⟩ (CW X ⟨s.mem, μ⟩ w) w (s.tm t) (slotV X.xg a.tmps t)) (x : Operand) : RepD ⟨s.mem, μ⟩ (CW X ⟨s.mem, μ⟩ w) w (s.ev x) (a.eval x) := by
  cases x with
  | tmp t =>
    show RepD _ _ _ (bif Nat.blt t 900000 then s.tm t else .any) (a.tmps.getD t undef)
    cases hb : Nat.blt t 900000 with
    | false => trivial
    | true =>
      have := h t
      rw [slotV_lt (Nat.blt_eq.mp hb)] at this
      exact this
  | const v => exact constD_rep v
  | global g =>
    have := h (1000000 + g)
    rw [slotV_glob] at this
    exact this
  | func f =>
    show RepD _ _ _ (bif Nat.ble 1048576 f then .any else .one (.clo f [])) _
    cases hb : Nat.ble 1048576 f with
    | true => trivial
    | false => exact ⟨[], (cloV_lt hb).symm, rfl, fun i c u h => nomatch h⟩

def D.strip : D → D
  | .gd _ d => d
  | d => d
def D.need : D → Prop
  | .gd q _ => q
  | _ => True
theorem strip_rep {p : Rho} {C : Nat → Nat → Value → Prop} {w : World} {d : D} {v : Value} (h : RepD p C w d v) (hn : d.need) : RepD p C w d.strip v := by
  cases d with
  | gd q d => exact h.1 hn
  | _ => exact h

/-- the conditions under which operands hold what they say -/
def needL (s : St) : List Operand → List Prop
  | [] => []
  | x :: r =>
    match s.ev x with
    | .gd q _ => q :: needL s r
    | _ => needL s r
def conj (l : List Prop) (φ : Prop) : Prop :=
  match l with
  | [] => φ
  | p :: r => p ∧ conj r φ
theorem conj_iff {l : List Prop} {φ : Prop} : conj l φ ↔ (∀ p ∈ l, p) ∧ φ := by
  induction l with
  | nil => simp [conj]
  | cons p r ih => rw [conj, ih, List.forall_mem_cons, and_assoc]
theorem needs_all {s : St} : ∀ {l : List Operand}, (∀ p ∈ needL s l, p) → ∀ x ∈ l, (s.ev x).need
  | [], _, x, hx => by cases hx
  | y :: r, h, x, hx => by
    rw [needL] at h
    rcases List.mem_cons.1 hx with rfl | hx
    · split at h
      · rename_i q d he
        rw [he]
        exact h q (by simp)
      · rename_i he
        cases hd : s.ev x with
        | gd q d => exact absurd hd (he q d)
        | _ => trivial
    · split at h
      · exact needs_all (fun p hp => h p (by simp [hp])) x hx
      · exact needs_all h x hx
def needO (d : D) : Option Prop :=
  match d with
  | .gd q _ => some q
  | _ => none
theorem needO_ok {d : D} (h : ∀ q, needO d = some q → q) : d.need := by
  cases d with
  | gd q d => exact h q rfl
  | _ => trivial

/-- the guard of an operation: none, or the condition under which it is carried out -/
inductive Gd where
  | free
  | iff (q : Prop)
  | bad
def gdOf (ops : Array Oper) (s : St) (o : Oper) : Gd :=
  match o.guard with
  | none => .free
  | some (g, b) =>
    match ops[g]? with
    | some og =>
      match og.dst with
      | some t =>
        match s.tm t with
        | .one (.e (.v (.bool c))) => .iff (c = b)
        | .gd q (.one (.e (.v (.bool c)))) => .iff (q ∧ c = b)
        | _ => .bad
      | none => .bad
    | none => .bad

theorem undef_not_bool (c : Bool) : undef ≠ .bool c := by intro h; cases h

theorem gd_free {ops : Array Oper} {s : St} {o : Oper} (h : gdOf ops s o = .free) (a : Act) : Region.wanted o (yielded ops a.tmps) = true := by
  unfold gdOf at h
  split at h
  · rename_i hg
    simp [Region.wanted, hg]
  · split at h
    · split at h
      · split at h <;> cases h
      · cases h
    · cases h
theorem slotV_bool {x : Nat → Nat} {tmps : Array Value} {t : Nat} {c : Bool} (h : slotV x tmps t = .bool c) : tmps[t]? = some (.bool c) := by
  unfold slotV at h
  cases hb : Nat.ble 1000000 t with
  | true => rw [hb] at h; cases h
  | false =>
    rw [hb] at h
    cases hb2 : Nat.ble 900000 t with
    | true => rw [hb2] at h; cases h
    | false =>
    rw [hb2] at h
    have h : tmps.getD t undef = .bool c := h
    cases ht' : tmps[t]? with
    | none => rw [Array.getD_eq_getD_getElem?, ht'] at h; exact absurd h (undef_not_bool c)
    | some u => rw [Array.getD_eq_getD_getElem?, ht'] at h; rw [show u = .bool c from h]
theorem slotV_undef {x : Nat → Nat} {tmps : Array Value} {t : Nat} (h : slotV x tmps t = undef) : tmps[t]? = none ∨ tmps[t]? = some undef := by
  unfold slotV at h
  cases hb : Nat.ble 1000000 t with
  | true => rw [hb] at h; cases h
  | false =>
    rw [hb] at h
    cases hb2 : Nat.ble 900000 t with
    | true => rw [hb2] at h; cases h
    | false =>
    rw [hb2] at h
    have h : tmps.getD t undef = undef := h
    cases ht' : tmps[t]? with
    | none => exact .inl rfl
    | some u => rw [Array.getD_eq_getD_getElem?, ht'] at h; rw [show u = undef from h]; exact .inr rfl
theorem gd_iff {ops : Array Oper} {s : St} {o : Oper} {q : Prop} {x : Nat → Nat} (h : gdOf ops s o = .iff q) {p : Rho} {C : Nat → Nat → Value → Prop} {w : World} {a : Act} (hr : ∀ t, RepD p C w (s.tm t) (slotV x a.tmps t)) :
    (Region.wanted o (yielded ops a.tmps) = true ↔ q) := by
  unfold gdOf at h
  split at h
  · cases h
  · rename_i g b hg
    split at h
    · rename_i og hog
      split at h
      · rename_i t ht
        have hw : Region.wanted o (yielded ops a.tmps) = (yielded ops a.tmps g == some b) := by simp [Region.wanted, hg]
        have hy : yielded ops a.tmps g = match a.tmps[t]? with | some (.bool c) => some c | _ => none := by
          simp only [yielded, hog, Option.bind_some, ht]
          rfl
        have h1 := hr t
        split at h
        · rename_i c hc
          cases h
          rw [hc] at h1
          have := repV h1
          have hs : a.tmps[t]? = some (.bool c) := slotV_bool this
          rw [hw, hy, hs]
          simp
        · rename_i q' c hc
          cases h
          rw [hc] at h1
          by_cases hq : q'
          · have := repV (h1.1 hq)
            have hs : a.tmps[t]? = some (.bool c) := slotV_bool this
            rw [hw, hy, hs]
            simp [hq]
          · have := h1.2 hq
            have hs : yielded ops a.tmps g = none := by
              rw [hy]
              rcases slotV_undef this with ht' | ht' <;> rw [ht'] <;> rfl
            rw [hw, hs]
            simp [hq]
        · cases h
      · cases h
    · cases h

def pickE (s : St) (c x y : Operand) : Option Ef :=
  match (s.ev c).strip, (s.ev x).strip, (s.ev y).strip with
  | .one (.e (.v (.bool cv))), .one (.e (.v (.bool xv))), .one (.e (.v (.bool yv))) =>
    match needO (s.ev c), needO (s.ev x), needO (s.ev y) with
    | none, none, none => some ⟨True, .v (.bool (bif cv then xv else yv)), []⟩
    | none, none, some q => some ⟨cv = false → q, .v (.bool (bif cv then xv else yv)), []⟩
    | none, some q, none => some ⟨cv = true → q, .v (.bool (bif cv then xv else yv)), []⟩
    | some q, none, none => some ⟨q, .v (.bool (bif cv then xv else yv)), []⟩
    | some r, none, some q => some ⟨r ∧ (cv = false → q), .v (.bool (bif cv then xv else yv)), []⟩
    | some r, some q, none => some ⟨r ∧ (cv = true → q), .v (.bool (bif cv then xv else yv)), []⟩
    | _, _, _ => none
  | _, _, _ => none
theorem pickE_ok {s : St} {c x y : Operand} {ef : Ef} (h : pickE s c x y = some ef) : ∃ cv xv yv : Bool, (s.ev c).strip = .v (.bool cv) ∧ (s.ev x).strip = .v (.bool xv) ∧ (s.ev y).strip = .v (.bool yv) ∧
    ef.val = .v (.bool (bif cv then xv else yv)) ∧ ef.upds = [] ∧ (ef.φ → (s.ev c).need ∧ (cv = true → (s.ev x).need) ∧ (cv = false → (s.ev y).need)) := by
  unfold pickE at h
  split at h
  · rename_i cv xv yv hc hx hy
    refine ⟨cv, xv, yv, hc, hx, hy, ?_⟩
    have key : ∀ {d : D}, needO d = none → d.need := fun {d} h => needO_ok fun q hq => by rw [h] at hq; cases hq
    have key' : ∀ {d : D} {q : Prop}, needO d = some q → q → d.need := fun {d q} h hq => needO_ok fun q' hq' => by rw [h] at hq'; cases hq'; exact hq
    split at h
    · rename_i h1 h2 h3; cases h; exact ⟨rfl, rfl, fun _ => ⟨key h1, fun _ => key h2, fun _ => key h3⟩⟩
    · rename_i h1 h2 h3; cases h; exact ⟨rfl, rfl, fun f => ⟨key h1, fun _ => key h2, fun e => key' h3 (f e)⟩⟩
    · rename_i h1 h2 h3; cases h; exact ⟨rfl, rfl, fun f => ⟨key h1, fun e => key' h2 (f e), fun _ => key h3⟩⟩
    · rename_i h1 h2 h3; cases h; exact ⟨rfl, rfl, fun f => ⟨key' h1 f, fun _ => key h2, fun _ => key h3⟩⟩
    · rename_i h1 h2 h3; cases h; exact ⟨rfl, rfl, fun f => ⟨key' h1 f.1, fun _ => key h2, fun e => key' h3 (f.2 e)⟩⟩
    · rename_i h1 h2 h3; cases h; exact ⟨rfl, rfl, fun f => ⟨key' h1 f.1, fun e => key' h2 (f.2 e), fun _ => key h3⟩⟩
    · cases h
  · cases h

def rawE (T : Nat → Option TI) (s : St) (id : Nat) (op : Op) : Option Ef :=
  match op with
  | .pick c x y => pickE s c x y
  | op =>
    match eff T s.mem id op (fun x => (s.ev x).strip) with
    | some ⟨φ, d, us⟩ =>
      match needL s op.operands.toList with
      | [] => some ⟨φ, d, us⟩
      | [p] => some ⟨p ∧ φ, d, us⟩
      | [p, q] => some ⟨p ∧ q ∧ φ, d, us⟩
      | l => some ⟨conj l φ, d, us⟩
    | none => none
theorem rawE_ok {T : Nat → Option TI} {s : St} {id : Nat} {op : Op} (hp : ∀ c x y, op ≠ .pick c x y) {ef : Ef} (h : rawE T s id op = some ef) : ∃ φ d us, eff T s.mem id op (fun x => (s.ev x).strip) = some ⟨φ, d, us⟩ ∧ ef = ⟨conj (needL s op.operands.toList) φ, d, us⟩ := by
  unfold rawE at h
  split at h
  · exact absurd rfl (hp _ _ _)
  · split at h
    · rename_i φ d us he
      refine ⟨φ, d, us, he, ?_⟩
      split at h
      · rename_i hn; rw [hn]; cases h; rfl
      · rename_i hn; rw [hn]; cases h; rfl
      · rename_i hn; rw [hn]; cases h; rfl
      · cases h; rfl
    · cases h

def dstOk (nt : Nat) : Option Tmp → Bool
  | some t => Nat.blt t nt
  | none => true
def dstId : Option Tmp → Nat
  | some t => t
  | none => 0

def isLit : Op → Bool
  | .buildSlice .. => true
  | _ => false
def stepI (T : Nat → Option TI) (ops : Array Oper) (s : St) (o : Oper) (id : Nat) : Option Ef :=
  match gdOf ops s o with
  | .bad => none
  | .free => rawE T s id o.op
  | .iff q =>
    match rawE T s id o.op with
    | some ⟨φ, d, []⟩ => some ⟨q → φ, .gd q d, []⟩
    | some ⟨φ, .one (.own _ _), [(_, ⟨_, .row _ xs, _⟩)]⟩ => bif isLit o.op then some ⟨q → φ, .gd q (.one (.e (.sl xs))), []⟩ else none
    | _ => none
/-- the effect of one operation -/
def stepE (T : Nat → Option TI) (nt : Nat) (ops : Array Oper) (s : St) (o : Oper) : Option Ef :=
  match o.dst with
  | some t => bif Nat.blt t nt then stepI T ops s o t else none
  | none => stepI T ops s o 0
theorem stepE_I {T : Nat → Option TI} {nt : Nat} {ops : Array Oper} {s : St} {o : Oper} {ef : Ef} (h : stepE T nt ops s o = some ef) : dstOk nt o.dst = true ∧ ∃ id, stepI T ops s o id = some ef := by
  unfold stepE at h
  split at h
  · rename_i t ht
    cases hb : Nat.blt t nt with
    | false => rw [hb] at h; cases h
    | true => rw [hb] at h; rw [ht]; exact ⟨hb, t, h⟩
  · rename_i ht; rw [ht]; exact ⟨rfl, 0, h⟩

def St.app (s : St) (dst : Option Tmp) (d : D) (us : Upds) : St :=
  ⟨match dst with | some t => upd s.tm t d | none => s.tm, appU s.mem us⟩

/-- what is shown of one operation: from the state s it leads to s' -/
def OpT (P : Program) (X : Ctx) (ops : Array Oper) (o : Oper) (s s' : St) : Prop :=
  ∀ (Q : Exit → Act → World → Prop) (a : Act) (w : World), R X s a w → if Region.wanted o (yielded ops a.tmps) then o.wp P a w (R X s') Q else R X s' (a.put o.dst undef) w

section
variable {P : Program} {T : Nat → Option TI} {X : Ctx}

theorem put_rep {s : St} {p p' : Rho} {w w' : World} {a : Act} {dst : Option Tmp} {d : D} {v : Value} (hr : ∀ t, RepD p (CW X p w) w (s.tm t) (slotV X.xg a.tmps t)) (hK : Kept p (CW X p w) w p' (CW X p' w') w') (hv : RepD p' (CW X p' w') w' d v) (hsz : a.tmps.size = X.nt) (hd : dstOk X.nt dst = true) (us : Upds) :
    ∀ t, RepD p' (CW X p' w') w' ((s.app dst d us).tm t) (slotV X.xg (a.put dst v).tmps t) := by
  intro t
  cases dst with
  | none => exact (hr t).kept hK
  | some t' =>
    have hlt' : t' < X.nt := Nat.blt_eq.mp hd
    have hlt : t' < a.tmps.size := by rw [hsz]; exact hlt'
    by_cases ht : t = t'
    · subst ht
      simp only [St.app, upd_same, Act.put]
      rw [slotV_lt (Nat.lt_of_lt_of_le hlt' X.big), Array.getD_eq_getD_getElem?, Array.getElem?_setIfInBounds_self, if_pos hlt]
      exact hv
    · simp only [St.app, upd_ne _ _ ht, Act.put]
      have := (hr t).kept hK
      have e : slotV X.xg (a.tmps.setIfInBounds t' v) t = slotV X.xg a.tmps t := by
        unfold slotV
        rw [Array.getD_eq_getD_getElem?, Array.getD_eq_getD_getElem?, Array.getElem?_setIfInBounds_ne (Ne.symm ht)]
      rw [e]
      exact this

theorem rawE_sound (hT : TOk P T) {s : St} {id : Nat} {o : Oper} {ef : Ef} (h : rawE T s id o.op = some ef) (hφ : ef.φ) {a : Act} {w : World} {μ : Nat → Option Nat} (hM : RM X ⟨s.mem, μ⟩ w) (hr : ∀ t, RepD ⟨s.mem, μ⟩ (CW X ⟨s.mem, μ⟩ w) w (s.tm t) (slotV X.xg a.tmps t)) :
    Goes P X ⟨s.mem, μ⟩ w o a.eval ef := by
  by_cases hpk : ∃ c x y, o.op = .pick c x y
  · obtain ⟨c, x, y, ho⟩ := hpk
    rw [ho] at h
    obtain ⟨cv, xv, yv, hc, hx, hy, e1, e2, e3⟩ := pickE_ok (h : pickE s c x y = some ef)
    obtain ⟨f1, f2, f3⟩ := e3 hφ
    have e4 := strip_rep (ev_rep hr c) f1
    rw [hc] at e4
    have hcv := repV e4
    refine ⟨.bool (bif cv then xv else yv), w, μ, .inl ?_, by rw [e2]; exact hM, by rw [e2]; exact Kept.rfl', by rw [e1]; exact repV_mk rfl⟩
    simp only [execOp, ho, hcv, asBool]
    cases cv with
    | true =>
      have e2 := strip_rep (ev_rep hr x) (f2 rfl)
      rw [hx] at e2
      have := repV e2
      simp [this]
    | false =>
      have e2 := strip_rep (ev_rep hr y) (f3 rfl)
      rw [hy] at e2
      have := repV e2
      simp [this]
  · obtain ⟨φ, d, us, he, rfl⟩ := rawE_ok (fun c x y e => hpk ⟨c, x, y, e⟩) h
    obtain ⟨f1, f2⟩ := conj_iff.1 hφ
    have := eff_sound (ef := ⟨φ, d, us⟩) (p := ⟨s.mem, μ⟩) (ρ := a.eval) hT hM (fun x hx => strip_rep (ev_rep hr x) (needs_all f1 x (by simpa using hx))) he f2
    exact this

theorem rawLit_sound (hT : TOk P T) {s : St} {id : Nat} {o : Oper} {φ : Prop} {i v i' v' z pub : Nat} {xs : List (List E)} (hl : isLit o.op = true) (h : rawE T s id o.op = some ⟨φ, .one (.own i v), [(i', ⟨v', .row z xs, pub⟩)]⟩) (hφ : φ) {a : Act} {w : World} {μ : Nat → Option Nat} (hM : RM X ⟨s.mem, μ⟩ w) (hr : ∀ t, RepD ⟨s.mem, μ⟩ (CW X ⟨s.mem, μ⟩ w) w (s.tm t) (slotV X.xg a.tmps t)) :
    Goes P X ⟨s.mem, μ⟩ w o a.eval ⟨True, .one (.e (.sl xs)), []⟩ := by
  have hop : ∃ t len ps, o.op = .buildSlice t len ps := by
    revert hl
    generalize o.op = op
    cases op <;> first | (intro h; cases h; done) | (intro _; exact ⟨_, _, _, rfl⟩)
  obtain ⟨t, len, ps, hop⟩ := hop
  obtain ⟨φ', d, us, he, hef⟩ := rawE_ok (fun c x y e => by rw [hop] at e; cases e) h
  cases hef
  obtain ⟨f1, f2⟩ := conj_iff.1 hφ
  rw [hop] at he f1
  have he : effBuildSl T s.mem id t len (ps.toList.map fun q => (q.1, (s.ev q.2).strip)) = some ⟨φ', .one (.own i v), [(i', ⟨v', .row z xs, pub⟩)]⟩ := he
  exact lit_goes (p := ⟨s.mem, μ⟩) (id := id) (ev := fun x => (s.ev x).strip) (i' := i') (ver' := v') (z' := z) (pub' := pub) hT hM hop (fun q hq => strip_rep (ev_rep hr q.2) (needs_all f1 q.2 (by simp only [Op.operands]; simpa using ⟨q.1, by simpa using hq⟩))) he f2

theorem goes_wp {s : St} {o : Oper} {ef : Ef} {a : Act} {w : World} {μ : Nat → Option Nat} (hr : ∀ t, RepD ⟨s.mem, μ⟩ (CW X ⟨s.mem, μ⟩ w) w (s.tm t) (slotV X.xg a.tmps t)) (hsz : a.tmps.size = X.nt) (hdf : a.defers = X.df) (hd : dstOk X.nt o.dst = true)
    (h : Goes P X ⟨s.mem, μ⟩ w o a.eval ef) (Q : Exit → Act → World → Prop) : o.wp P a w (R X (s.app o.dst ef.val ef.upds)) Q := by
  obtain ⟨v, w', μ', hrun, h1, h2, h3⟩ := h
  have hR : R X (s.app o.dst ef.val ef.upds) (a.put o.dst v) w' := ⟨μ', h1, by cases o.dst <;> simp [Act.put, hsz], by cases o.dst <;> exact hdf, put_rep hr h2 h3 hsz hd ef.upds⟩
  unfold Oper.wp
  rcases hrun with hrun | ⟨hrun, rfl⟩
  · rw [hrun]; exact hR
  · rw [hrun]; exact hR

theorem step_sound (hT : TOk P T) {ops : Array Oper} {s : St} {o : Oper} {ef : Ef} (h : stepE T X.nt ops s o = some ef) (hφ : ef.φ) : OpT P X ops o s (s.app o.dst ef.val ef.upds) := by
  intro Q a w ⟨μ, hM, hsz, hdf, hr⟩
  obtain ⟨hd, id, h⟩ := stepE_I h
  unfold stepI at h
  split at h
  · cases h
  · rename_i hg
    rw [if_pos (gd_free hg a)]
    exact goes_wp hr hsz hdf hd (rawE_sound hT h hφ hM hr) Q
  · rename_i q hg
    have hiff := gd_iff hg hr
    split at h
    · rename_i φ d hraw
      cases h
      by_cases hq : q
      · rw [if_pos (hiff.2 hq)]
        have := rawE_sound hT hraw (hφ hq) hM hr
        obtain ⟨v, w', μ', k1, k2, k3, k4⟩ := this
        exact goes_wp (ef := ⟨q → φ, .gd q d, []⟩) hr hsz hdf hd ⟨v, w', μ', k1, k2, k3, fun _ => k4, fun hn => absurd hq hn⟩ Q
      · rw [if_neg (fun hw => hq (hiff.1 hw))]
        exact ⟨μ, hM, by cases o.dst <;> simp [Act.put, hsz], by cases o.dst <;> exact hdf, put_rep (d := .gd q d) (v := undef) hr Kept.rfl' ⟨fun h => absurd h hq, fun _ => rfl⟩ hsz hd []⟩
    · rename_i φ i v i' v' z xs pub hraw
      cases hl : isLit o.op with
      | false => rw [hl] at h; cases h
      | true =>
        rw [hl] at h
        cases h
        by_cases hq : q
        · rw [if_pos (hiff.2 hq)]
          obtain ⟨v, w', μ', k1, k2, k3, k4⟩ := rawLit_sound hT hl hraw (hφ hq) hM hr
          exact goes_wp (ef := ⟨q → φ, .gd q (.one (.e (.sl xs))), []⟩) hr hsz hdf hd ⟨v, w', μ', k1, k2, k3, fun _ => k4, fun hn => absurd hq hn⟩ Q
        · rw [if_neg (fun hw => hq (hiff.1 hw))]
          exact ⟨μ, hM, by cases o.dst <;> simp [Act.put, hsz], by cases o.dst <;> exact hdf, put_rep (d := .gd q (.one (.e (.sl xs)))) (v := undef) hr Kept.rfl' ⟨fun h => absurd h hq, fun _ => rfl⟩ hsz hd []⟩
    · cases h
end
end Go.Proofs.YtcdifgacoleckaaDoor.Ab
namespace Go.Proofs.YtcdifgacoleckaaDoor.Ab
open Go Go.RowKit
set_option linter.unusedSimpArgs false
set_option linter.unusedVariables false

/-! ### regions in the order of the text -/
inductive Lex (P : Program) (X : Ctx) (ops : Array Oper) : List Oper → St → St → Prop
  | nil (s : St) : Lex P X ops [] s s
  | cons {o : Oper} {r : List Oper} {s s1 s2 : St} (h : OpT P X ops o s s1) (k : Lex P X ops r s1 s2) : Lex P X ops (o :: r) s s2

def isGo : Op → Bool
  | .call ⟨.value _, _, _⟩ => true
  | .call ⟨.invoke _ _, _, _⟩ => true
  | _ => false

/-- code: from an abstract state it ends as Q says -/
def Tr (P : Program) (X : Ctx) (c : Code) (s : St) (Q : Exit → St → Prop) : Prop :=
  ∀ (a : Act) (w : World), R X s a w → c.wp P (fun e a' w' => ∃ s', Q e s' ∧ R X s' a' w') a w

def Le (X : Ctx) (s s' : St) : Prop := ∀ (a : Act) (w : World), R X s a w → R X s' a w

section
variable {P : Program} {T : Nat → Option TI} {X : Ctx}

theorem lex_list {ops : Array Oper} {Q : Exit → Act → World → Prop} {l : List Oper} {s s' : St} (h : Lex P X ops l s s') (hQ : ∀ a w, R X s' a w → Q .normal a w) : ∀ a w, R X s a w → wpList P ops Q l a w := by
  induction h with
  | nil s => intro a w hR; exact hQ a w hR
  | cons h k ih =>
    intro a w hR
    refine wpList_step fun K hK => ?_
    have := h Q a w hR
    split
    · rename_i hw
      rw [if_pos hw] at this
      exact Oper.wp_mono (fun a w hr => hK a w (ih hQ a w hr)) this
    · rename_i hw
      rw [if_neg hw] at this
      exact hK _ _ (ih hQ _ _ this)

theorem tr_region {id : Nat} {ops : Array Oper} {s s' : St} {Q : Exit → St → Prop} (h : Lex P X ops ops.toList s s') (hQ : Q .normal s') : Tr P X (.region id ops false) s Q :=
  fun a w hR => wp_region_list (lex_list h (fun _ _ hR => ⟨s', hQ, hR⟩) a w hR)

theorem tr_mono {c : Code} {s : St} {Q Q' : Exit → St → Prop} (h : Tr P X c s Q) (hq : ∀ e s, Q e s → Q' e s) : Tr P X c s Q' :=
  fun a w hR => wp_mono (h a w hR) fun _ _ _ ⟨s', h1, h2⟩ => ⟨s', hq _ _ h1, h2⟩

theorem tr_skip {s : St} {Q : Exit → St → Prop} (h : Q .normal s) : Tr P X .skip s Q := fun _ _ hR => wp_skip ⟨s, h, hR⟩
theorem tr_ret {s : St} {Q : Exit → St → Prop} (h : Q .ret s) : Tr P X .ret s Q := fun _ _ hR => wp_ret ⟨s, h, hR⟩
theorem tr_exit {id : Nat} {s : St} {Q : Exit → St → Prop} (h : Q (.exit id) s) : Tr P X (.exit id) s Q := fun _ _ hR => wp_exit ⟨s, h, hR⟩

/-- what stands behind x -/
def andThen (P : Program) (X : Ctx) (y : Code) (Q : Exit → St → Prop) : Exit → St → Prop
  | .normal, s => Tr P X y s Q
  | e, s => Q e s
theorem tr_seq {x y : Code} {s : St} {Q : Exit → St → Prop} (h : Tr P X x s (andThen P X y Q)) : Tr P X (.seq x y) s Q :=
  fun a w hR => wp_seq (wp_mono (h a w hR) fun e a' w' ⟨s', h1, h2⟩ => by
    cases e <;> first | exact h1 a' w' h2 | exact ⟨s', h1, h2⟩)

def inBlk (id : Nat) (Q : Exit → St → Prop) : Exit → St → Prop
  | .exit id', s => if id' = id then Q .normal s else Q (.exit id') s
  | e, s => Q e s
theorem tr_block {id : Nat} {c : Code} {s : St} {Q : Exit → St → Prop} (h : Tr P X c s (inBlk id Q)) : Tr P X (.block id c) s Q :=
  fun a w hR => wp_block (wp_mono (h a w hR) fun e a' w' ⟨s', h1, h2⟩ => by
    cases e with
    | exit id' =>
      simp only [inBlk] at h1
      simp only [Exit.inBlock]
      split at h1
      · rename_i hi; rw [if_pos hi]; exact ⟨s', h1, h2⟩
      · rename_i hi; rw [if_neg hi]; exact ⟨s', h1, h2⟩
    | _ => exact ⟨s', h1, h2⟩)

theorem tr_cond {c : Operand} {x y : Code} {s : St} {Q : Exit → St → Prop} {b : Bool} (hc : s.ev c = .v (.bool b)) (ht : b = true → Tr P X x s Q) (hf : b = false → Tr P X y s Q) : Tr P X (.cond c x y) s Q := by
  intro a w hR
  obtain ⟨μ, hM, hsz, hdf, hr⟩ := hR
  have h1 := ev_rep hr c
  rw [hc] at h1
  have hv := repV h1
  exact wp_cond_split hv (fun e => ht e a w ⟨μ, hM, hsz, hdf, hr⟩) (fun e => hf e a w ⟨μ, hM, hsz, hdf, hr⟩)

theorem tr_le {c : Code} {s s' : St} {Q : Exit → St → Prop} (h : Le X s s') (k : Tr P X c s' Q) : Tr P X c s Q := fun a w hR => k a w (h a w hR)

/-- a loop: H x are the states at its head; m goes down -/
theorem tr_loop {σ : Type} (H : σ → St) (J : σ → Prop) (m : σ → Nat) {c : Code} {s : St} {Q : Exit → St → Prop} (x0 : σ) (hs : Le X s (H x0)) (h0 : J x0)
    (round : ∀ x, J x → Tr P X c (H x) (fun | .normal, s' => ∃ x', J x' ∧ m x' < m x ∧ Le X s' (H x') | e, s' => Q e s')) : Tr P X (.loop c) s Q := by
  intro a w hR
  intro b k cs
  have key : ∀ n x a w, m x = n → J x → R X (H x) a w →
      ∃ e a' w', (∃ s', Q e s' ∧ R X s' a' w') ∧ Arrives P (lone (b.at a (.code c :: .inLoop c :: k)) cs w) b k cs e a' w' := by
    intro n
    induction n using Nat.strongRecOn with
    | _ n ih =>
      intro x a w hn hJ hRx
      obtain ⟨e, a₁, w₁, ⟨s1, hq, hR1⟩, harr⟩ := round x hJ a w hRx b (.inLoop c :: k) cs
      cases e with
      | normal =>
        obtain ⟨x', hJ', hlt, hle⟩ := hq
        obtain ⟨e₂, a₂, w₂, hq₂, harr₂⟩ := ih (m x') (hn ▸ hlt) x' a₁ w₁ rfl hJ' (hle _ _ hR1)
        exact ⟨e₂, a₂, w₂, hq₂, .of_steps (Steps.trans harr (.one step_inLoop)) harr₂⟩
      | exit id => exact ⟨_, a₁, w₁, ⟨s1, hq, hR1⟩, .pass (x := .inLoop c) rfl (fun _ _ => .inl (by simp)) harr⟩
      | goto l => exact ⟨_, a₁, w₁, ⟨s1, hq, hR1⟩, .pass (x := .inLoop c) rfl (fun _ _ => .inl (by simp)) harr⟩
      | ret => exact ⟨_, a₁, w₁, ⟨s1, hq, hR1⟩, .pass (x := .inLoop c) rfl (fun _ _ => .inl (by simp)) harr⟩
      | panic ch => exact ⟨_, a₁, w₁, ⟨s1, hq, hR1⟩, .pass (x := .inLoop c) rfl (fun _ _ => .inl (by simp)) harr⟩
      | outgrown => exact ⟨_, a₁, w₁, ⟨s1, hq, hR1⟩, .pass (x := .inLoop c) rfl (fun _ _ => .inl (by simp)) harr⟩
  obtain ⟨e, a', w', hq, harr⟩ := key _ x0 a w rfl h0 (hs _ _ hR)
  exact ⟨e, a', w', hq, .of_steps (.one step_loop) harr⟩

/-! ### functions -/
def p0 : Rho := ⟨fun _ => none, fun _ => none⟩
def CI (w : World) (I : Nat → Nat → Prop) (b o : Nat) (u : Value) : Prop := w.cell? ⟨b, o, none⟩ = some u ∧ I b o
def CI' (w w' : World) (I : Nat → Nat → Prop) (b o : Nat) (u : Value) : Prop := w'.cell? ⟨b, o, none⟩ = some u ∧ (I b o ∨ w.heap.size ≤ b)
def RepAs (C : Nat → Nat → Value → Prop) (w : World) (args : List D) (vs : List Value) : Prop :=
  args.length = vs.length ∧ ∀ (i : Nat) d v, args[i]? = some d → vs[i]? = some v → RepD p0 C w d v

def FnOk (P : Program) (f : Nat) : Prop := ∃ fn c, P.funcs[f]? = some fn ∧ fn.body = some c ∧ ((fn.name == "runtime.NumGoroutine") || Nat.ble 1048576 f) = false

/-- function f, given data, answers data, and leaves all that was there alone -/
def FnD (P : Program) (f : Nat) (args : List D) (r : D) : Prop :=
  FnOk P f ∧ ∀ (w : World) (vs : Array Value) (I : Nat → Nat → Prop), RepAs (CI w I) w args vs.toList →
    Calls P f vs w fun e w' => ∃ v, e = .returned v ∧ Below w.heap.size w w' ∧ RepD p0 (CI' w w' I) w' r v

/-- data out of what a slot holds -/
def dataD (m : Mem) : D → Option (D × Upds)
  | .one (.clo f []) => some (.one (.clo f []), [])
  | .one (.ptr i v o) => match m i with
    | some ⟨bv, .box (.es cs), _⟩ => bif Nat.beq bv v then some (.one (.eptr (cs.drop o)), [(i, ⟨bv, .box (.es cs), (Body.box (.es cs)).cells.length⟩)]) else none
    | _ => none
  | .one x => match frz m x with
    | some (e, us) => some (.one (.e e), us)
    | none => none
  | .agg c => match frzC m c with
    | some (es, us) => some (.agg (.es es), us)
    | none => none
  | _ => none
def dataL (m : Mem) : List D → Option (List D × Upds)
  | [] => some ([], [])
  | d :: r => match dataD m d, dataL m r with
    | some (x, u), some (xs, us) => some (x :: xs, u ++ us)
    | _, _ => none

theorem dataD_ok {m : Mem} {d x : D} {us : Upds} (h : dataD m d = some (x, us)) : PubOk m us := by
  unfold dataD at h
  split at h
  · cases h; exact fun u hu => nomatch hu
  · rename_i id ver off
    split at h
    · rename_i bv cs pub hb
      cases hv : Nat.beq bv ver with
      | false => simp [hv] at h
      | true =>
        simp only [hv, cond_true, Option.some.injEq, Prod.mk.injEq] at h
        obtain ⟨rfl, rfl⟩ := h
        intro u hu
        simp at hu
        subst hu
        exact ⟨_, hb, rfl⟩
    · cases h
  · split at h
    · rename_i e us' hf; cases h; exact frz_ok hf
    · cases h
  · split at h
    · rename_i es us' hf; cases h; exact frzC_ok hf
    · cases h
  · cases h
theorem dataL_ok {m : Mem} : ∀ {ds xs : List D} {us : Upds}, dataL m ds = some (xs, us) → PubOk m us
  | [], _, _, h => by cases h; exact fun u hu => nomatch hu
  | d :: r, xs, us, h => by
    rw [dataL] at h
    split at h
    · rename_i x u xs' us' h1 h2
      cases h
      intro v hv
      rcases List.mem_append.1 hv with hv | hv
      · exact dataD_ok h1 v hv
      · exact dataL_ok h2 v hv
    · cases h

theorem dataD_rep {m m' : Mem} {μ : Nat → Option Nat} {w : World} (hR : RM X ⟨m', μ⟩ w) {d x : D} {us : Upds} {v : Value} (hv : RepD ⟨m', μ⟩ (CW X ⟨m', μ⟩ w) w d v) (h : dataD m d = some (x, us)) (hu : ∀ u ∈ us, m' u.1 = some u.2) : RepD p0 (CW X ⟨m', μ⟩ w) w x v := by
  unfold dataD at h
  split at h
  · cases h
    obtain ⟨vs, rfl, hl, _⟩ := hv
    exact ⟨vs, rfl, hl, fun i c u h => nomatch h⟩
  · rename_i id ver off
    split at h
    · rename_i bv cs pub hb
      cases hbv : Nat.beq bv ver with
      | false => simp [hbv] at h
      | true =>
        obtain rfl := Nat.eq_of_beq_eq_true hbv
        simp only [hbv, cond_true, Option.some.injEq, Prod.mk.injEq] at h
        obtain ⟨rfl, rfl⟩ := h
        exact ptr_data hR (hu (id, ⟨bv, .box (.es cs), (Body.box (.es cs)).cells.length⟩) (List.mem_singleton.2 rfl)) hv
    · cases h
  · split at h
    · rename_i e us' hf
      cases h
      exact frz_rep hR hv hf hu
    · cases h
  · split at h
    · rename_i es us' hf
      cases h
      obtain ⟨vs, rfl, hr⟩ := hv
      have := frzC_rep hR hr hf hu
      refine ⟨vs, rfl, this.1, fun i y u hy hu => ?_⟩
      have h1 := this.2 i y u hy hu
      simp only [Cs.d0, List.getElem?_map, Option.map_eq_some_iff] at hy
      obtain ⟨e, _, rfl⟩ := hy
      exact h1
    · cases h
  · cases h

theorem dataL_rep {m m' : Mem} {μ : Nat → Option Nat} {w : World} (hR : RM X ⟨m', μ⟩ w) : ∀ {ds xs : List D} {us : Upds} {vs : List Value}, (ds.length = vs.length ∧ ∀ (i : Nat) d v, ds[i]? = some d → vs[i]? = some v → RepD ⟨m', μ⟩ (CW X ⟨m', μ⟩ w) w d v) → dataL m ds = some (xs, us) → (∀ u ∈ us, m' u.1 = some u.2) →
    RepAs (CW X ⟨m', μ⟩ w) w xs vs
  | [], _, _, vs, hr, h, _ => by cases h; exact ⟨hr.1, fun i d v hd => nomatch hd⟩
  | d :: r, xs, us, [], hr, h, _ => by have := hr.1; simp at this
  | d :: r, xs, us, v :: vs, hr, h, hu => by
    rw [dataL] at h
    split at h
    · rename_i x u xs' us' h1 h2
      cases h
      have ih := dataL_rep hR (ds := r) (vs := vs) ⟨by simpa using hr.1, fun i d v hd hv => hr.2 (i + 1) d v (by simpa using hd) (by simpa using hv)⟩ h2 (fun u hu' => hu u (by simp [hu']))
      have h0 := dataD_rep hR (hr.2 0 d v rfl rfl) h1 (fun u hu' => hu u (by simp [hu']))
      refine ⟨by simp [ih.1], fun i y u hy hu => ?_⟩
      cases i with
      | zero => simp at hy hu; subst hy; subst hu; exact h0
      | succ i => exact ih.2 i y u (by simpa using hy) (by simpa using hu)
    · cases h

theorem p0_kept {p : Rho} {C C' : Nat → Nat → Value → Prop} {w : World} (h : ∀ b o u, C b o u → C' b o u) : Kept p0 C w p C' w :=
  ⟨h, fun id blk hb => nomatch hb⟩

/-- a call -/
theorem opT_call {ops : Array Oper} {s : St} {o : Oper} {fo : Operand} {f : Nat} {args : Array Operand} {ts : Array TypeId} (hop : o.op = .call ⟨.value fo, args, ts⟩) (hgd : gdOf ops s o = .free) (hfo : (s.ev fo).strip = .one (.clo f [])) {as : List D} {us : Upds} {r : D}
    (has : dataL s.mem (args.toList.map fun x => (s.ev x).strip) = some (as, us)) (hn : ∀ p ∈ needL s (fo :: args.toList), p) (hfn : FnD P f as r) (hd : dstOk X.nt o.dst = true) : OpT P X ops o s (s.app o.dst r us) := by
  intro Q a w ⟨μ, hM, hsz, hdf, hr⟩
  rw [if_pos (gd_free hgd a)]
  obtain ⟨⟨fn, c, k1, k2, k34⟩, hfn⟩ := hfn
  obtain ⟨k3, k4⟩ := Bool.or_eq_false_iff.1 k34
  obtain ⟨r1, r2, r3, r4⟩ := RM.pubs us s.mem hM (dataL_ok has)
  have hrep := dataL_rep (vs := (args.map a.eval).toList) r1 ⟨by simp, fun i d v hd hv => by
    simp only [List.getElem?_map, Array.toList_map, Option.map_eq_some_iff] at hd hv
    obtain ⟨x, hx, rfl⟩ := hd
    obtain ⟨y, hy, rfl⟩ := hv
    rw [hx] at hy
    cases hy
    exact (strip_rep (ev_rep hr x) (needs_all hn x (List.mem_cons_of_mem _ (List.mem_of_getElem? hx)))).kept r2⟩ has r3
  have hf := strip_rep (ev_rep hr fo) (needs_all hn fo (List.mem_cons_self ..))
  rw [hfo] at hf
  obtain ⟨vs0, hfv, hl0, _⟩ := hf
  rw [cloV_lt k4] at hfv
  have hvs0 : vs0 = [] := List.eq_nil_of_length_eq_zero (by simpa using hl0.symm)
  subst hvs0
  have hcall : (execOp a.eval o).run P w = .ok (.enter f (args.map a.eval)) w := by
    have hb : fn.body.isNone = false := by rw [k2]; rfl
    have hne : ¬ (fn.name = "runtime.NumGoroutine") := by simpa using k3
    simp [execOp, hop, resolve, hfv, Deferred.ofValue, invoke, callFunc, k1, hne, k2]
  unfold Oper.wp
  rw [hcall, Oper.upon_enter]
  let I : Nat → Nat → Prop := fun b o => (¬ X.own b → X.I b o) ∧ (X.own b → ∀ id blk, appU s.mem us id = some blk → μ id = some b → o < blk.pub)
  refine (hfn w (args.map a.eval) I ⟨hrep.1, fun i d v hd hv => (hrep.2 i d v hd hv).kept (p0_kept fun b o u h => ⟨h.1, h.2⟩)⟩).mono ?_
  rintro e w' ⟨v, rfl, hbel, hv⟩
  obtain ⟨q1, q2⟩ := r1.call hbel
  have hv' : RepD ⟨appU s.mem us, μ⟩ (CW X ⟨appU s.mem us, μ⟩ w') w' r v := hv.kept (p0_kept fun b o u h => by
    obtain ⟨h1, h2⟩ := h
    rcases h2 with ⟨h2, h3⟩ | h2
    · exact ⟨h1, h2, h3⟩
    · refine ⟨h1, fun hno => absurd (.inl (Nat.le_trans r1.bel.size h2)) hno, fun _ id blk m1 m2 => ?_⟩
      have m2 : μ id = some b := m2
      have := r1.blk id blk m1
      simp only [BlkOk, m2] at this
      obtain ⟨_, _, _, _, cur, e, lo, hi, g4, _⟩ := this
      exact absurd (Nat.lt_of_lt_of_le (Array.getElem?_eq_some_iff.1 g4).1 h2) (Nat.lt_irrefl _))
  exact ⟨μ, q1, by cases o.dst <;> simp [Act.put, hsz], by cases o.dst <;> exact hdf, put_rep (us := us) hr (r2.trans q2) hv' hsz hd⟩

/-- function f has no body: the model answers at once -/
def FnE (P : Program) (f : Nat) (args : List D) (r : D) : Prop :=
  Nat.ble 1048576 f = false ∧ ∀ (w : World) (vs : Array Value) (C : Nat → Nat → Value → Prop), RepAs C w args vs.toList → ∃ v, (callFunc f vs).run P w = .ok (.value v) w ∧ RepD p0 C w r v
/-- a call of a function without a body, which the model does itself -/
theorem opT_ext {ops : Array Oper} {s : St} {o : Oper} {fo : Operand} {f : Nat} {args : Array Operand} {ts : Array TypeId} (hop : o.op = .call ⟨.value fo, args, ts⟩) (hgd : gdOf ops s o = .free) (hfo : (s.ev fo).strip = .one (.clo f [])) {as : List D} {us : Upds} {r : D}
    (has : dataL s.mem (args.toList.map fun x => (s.ev x).strip) = some (as, us)) (hn : ∀ p ∈ needL s (fo :: args.toList), p) (hfn : FnE P f as r) (hd : dstOk X.nt o.dst = true) : OpT P X ops o s (s.app o.dst r us) := by
  intro Q a w ⟨μ, hM, hsz, hdf, hr⟩
  rw [if_pos (gd_free hgd a)]
  obtain ⟨r1, r2, r3, r4⟩ := RM.pubs us s.mem hM (dataL_ok has)
  have hrep := dataL_rep (vs := (args.map a.eval).toList) r1 ⟨by simp, fun i d v hd hv => by
    simp only [List.getElem?_map, Array.toList_map, Option.map_eq_some_iff] at hd hv
    obtain ⟨x, hx, rfl⟩ := hd
    obtain ⟨y, hy, rfl⟩ := hv
    rw [hx] at hy
    cases hy
    exact (strip_rep (ev_rep hr x) (needs_all hn x (List.mem_cons_of_mem _ (List.mem_of_getElem? hx)))).kept r2⟩ has r3
  have hf := strip_rep (ev_rep hr fo) (needs_all hn fo (List.mem_cons_self ..))
  rw [hfo] at hf
  obtain ⟨vs0, hfv, hl0, _⟩ := hf
  rw [cloV_lt hfn.1] at hfv
  have hvs0 : vs0 = [] := List.eq_nil_of_length_eq_zero (by simpa using hl0.symm)
  subst hvs0
  obtain ⟨v, hv1, hv2⟩ := hfn.2 w (args.map a.eval) _ hrep
  have hcall : (execOp a.eval o).run P w = .ok (.value v) w := by
    simp only [execOp, hop, resolve, hfv, Deferred.ofValue, invoke]
    simpa using hv1
  unfold Oper.wp
  rw [hcall, Oper.upon_value]
  have hv' : RepD ⟨appU s.mem us, μ⟩ (CW X ⟨appU s.mem us, μ⟩ w) w r v := hv2.kept (p0_kept fun b o u h => h)
  exact ⟨μ, r1, by cases o.dst <;> simp [Act.put, hsz], by cases o.dst <;> exact hdf, put_rep (us := us) hr r2 hv' hsz hd⟩

/-- what a closure captured, as the function that it names is given it -/
def capD : List (Nat × Nat × Nat) → List D
  | [] => []
  | c :: r => .one (.ptr c.1 c.2.1 c.2.2) :: capD r
theorem dataL_cur {m : Mem} {caps : List (Nat × Nat × Nat)} : ∀ {l xs : List D} {us : Upds}, dataL m (l ++ capD caps) = some (xs, us) → ∀ c ∈ caps, ∃ b, m c.1 = some b ∧ b.ver = c.2.1
  | d :: l, xs, us, h => by
    rw [List.cons_append, dataL] at h
    split at h
    · rename_i h2
      exact dataL_cur h2
    · cases h
  | [], xs, us, h => by
    rw [List.nil_append] at h
    revert xs us
    induction caps with
    | nil => intro xs us h c hc; cases hc
    | cons c caps ih =>
      intro xs us h
      rw [capD, dataL] at h
      split at h
      · rename_i x u xs' us' h1 h2
        intro c' hc
        rcases List.mem_cons.1 hc with rfl | hc
        · unfold dataD at h1
          simp only at h1
          split at h1
          · rename_i bv cs pub hb
            cases hv : Nat.beq bv c'.2.1 with
            | false => simp [hv] at h1
            | true => exact ⟨_, hb, Nat.eq_of_beq_eq_true hv⟩
          · cases h1
        · exact ih (xs := xs') (us := us') h2 c' hc
      · cases h
/-- a call of a closure: what it captured comes behind its arguments -/
theorem opT_callC {ops : Array Oper} {s : St} {o : Oper} {fo : Operand} {f : Nat} {caps : List (Nat × Nat × Nat)} {args : Array Operand} {ts : Array TypeId} (hop : o.op = .call ⟨.value fo, args, ts⟩) (hgd : gdOf ops s o = .free) (hfo : (s.ev fo).strip = .one (.clo f caps)) {as : List D} {us : Upds} {r : D}
    (has : dataL s.mem ((args.toList.map fun x => (s.ev x).strip) ++ capD caps) = some (as, us)) (hn : ∀ p ∈ needL s (fo :: args.toList), p) (hfn : FnD P f as r) (hd : dstOk X.nt o.dst = true) : OpT P X ops o s (s.app o.dst r us) := by
  intro Q a w ⟨μ, hM, hsz, hdf, hr⟩
  rw [if_pos (gd_free hgd a)]
  obtain ⟨⟨fn, c, k1, k2, k34⟩, hfn⟩ := hfn
  obtain ⟨k3, k4⟩ := Bool.or_eq_false_iff.1 k34
  obtain ⟨r1, r2, r3, r4⟩ := RM.pubs us s.mem hM (dataL_ok has)
  have hf := strip_rep (ev_rep hr fo) (needs_all hn fo (List.mem_cons_self ..))
  rw [hfo] at hf
  obtain ⟨vs0, hfv, hl0, hcap⟩ := hf
  rw [cloV_lt k4] at hfv
  have hcaps : ∀ (cs : List (Nat × Nat × Nat)) (us : List Value), (∀ c ∈ cs, ∃ b, s.mem c.1 = some b ∧ b.ver = c.2.1) → cs.length = us.length → (∀ (i : Nat) c u, cs[i]? = some c → us[i]? = some u → Live ⟨s.mem, μ⟩ c.1 c.2.1 fun g => u = .pointer (some ⟨g, c.2.2, none⟩)) → (capD cs).length = us.length ∧ ∀ (i : Nat) d u, (capD cs)[i]? = some d → us[i]? = some u → RepD ⟨s.mem, μ⟩ (CW X ⟨s.mem, μ⟩ w) w d u := by
    intro cs
    induction cs with
    | nil => intro us _ h _; exact ⟨h, fun i d u hd => nomatch hd⟩
    | cons c cs ih =>
      intro us h0 h1 h2
      cases us with
      | nil => cases h1
      | cons u us =>
        obtain ⟨k1, k2⟩ := ih us (fun c hc => h0 c (List.mem_cons_of_mem _ hc)) (by simpa using h1) (fun i c u hc hu => h2 (i + 1) c u (by simpa using hc) (by simpa using hu))
        refine ⟨by simp [capD, k1], fun i d v hd hv => ?_⟩
        cases i with
        | zero =>
          simp [capD] at hd hv
          subst hd
          subst hv
          have hlv := h2 0 c u rfl rfl
          refine ⟨?_, hlv⟩
          obtain ⟨b, e1, e2⟩ := h0 c (List.mem_cons_self ..)
          obtain ⟨blk, q1, q2, q3⟩ := hlv
          have q1 : s.mem c.1 = some blk := q1
          rw [e1] at q1
          cases q1
          obtain ⟨g, _, rfl⟩ := q3 e2.symm
          rfl
        | succ i => exact k2 i d v (by simpa [capD] using hd) (by simpa using hv)
  obtain ⟨z1, z2⟩ := hcaps caps vs0 (dataL_cur has) hl0 hcap
  have hrep := dataL_rep (vs := (args.map a.eval).toList ++ vs0) r1 ⟨by simp [z1], fun i d v hd hv => by
    by_cases hi : i < args.size
    · rw [List.getElem?_append_left (by simpa using hi)] at hd hv
      simp only [List.getElem?_map, Array.toList_map, Option.map_eq_some_iff] at hd hv
      obtain ⟨x, hx, rfl⟩ := hd
      obtain ⟨y, hy, rfl⟩ := hv
      rw [hx] at hy
      cases hy
      exact (strip_rep (ev_rep hr x) (needs_all hn x (List.mem_cons_of_mem _ (List.mem_of_getElem? hx)))).kept r2
    · rw [List.getElem?_append_right (by simpa using hi)] at hd hv
      simp only [List.length_map, Array.length_toList, Array.toList_map] at hd hv
      exact (z2 _ d v hd hv).kept r2⟩ has r3
  have hcall : (execOp a.eval o).run P w = .ok (.enter f (args.map a.eval ++ vs0.toArray)) w := by
    have hb : fn.body.isNone = false := by rw [k2]; rfl
    have hne : ¬ (fn.name = "runtime.NumGoroutine") := by simpa using k3
    simp [execOp, hop, resolve, hfv, Deferred.ofValue, invoke, callFunc, k1, hne, k2]
  unfold Oper.wp
  rw [hcall, Oper.upon_enter]
  have hl : (args.map a.eval ++ vs0.toArray).toList = (args.map a.eval).toList ++ vs0 := by simp
  let I : Nat → Nat → Prop := fun b o => (¬ X.own b → X.I b o) ∧ (X.own b → ∀ id blk, appU s.mem us id = some blk → μ id = some b → o < blk.pub)
  refine (hfn w (args.map a.eval ++ vs0.toArray) I (by rw [hl]; exact ⟨hrep.1, fun i d v hd hv => (hrep.2 i d v hd hv).kept (p0_kept fun b o u h => ⟨h.1, h.2⟩)⟩)).mono ?_
  rintro e w' ⟨v, rfl, hbel, hv⟩
  obtain ⟨q1, q2⟩ := r1.call hbel
  have hv' : RepD ⟨appU s.mem us, μ⟩ (CW X ⟨appU s.mem us, μ⟩ w') w' r v := hv.kept (p0_kept fun b o u h => by
    obtain ⟨h1, h2⟩ := h
    rcases h2 with ⟨h2, h3⟩ | h2
    · exact ⟨h1, h2, h3⟩
    · refine ⟨h1, fun hno => absurd (.inl (Nat.le_trans r1.bel.size h2)) hno, fun _ id blk m1 m2 => ?_⟩
      have m2 : μ id = some b := m2
      have := r1.blk id blk m1
      simp only [BlkOk, m2] at this
      obtain ⟨_, _, _, _, cur, e, lo, hi, g4, _⟩ := this
      exact absurd (Nat.lt_of_lt_of_le (Array.getElem?_eq_some_iff.1 g4).1 h2) (Nat.lt_irrefl _))
  exact ⟨μ, q1, by cases o.dst <;> simp [Act.put, hsz], by cases o.dst <;> exact hdf, put_rep (us := us) hr (r2.trans q2) hv' hsz hd⟩
theorem opT_callG {ops : Array Oper} {s : St} {o : Oper} {fo : Operand} {f : Nat} {args : Array Operand} {ts : Array TypeId} {q : Prop} (hop : o.op = .call ⟨.value fo, args, ts⟩) (hgd : gdOf ops s o = .iff q) (hfo : (s.ev fo).strip = .one (.clo f [])) {as : List D} {r : D}
    (has : dataL s.mem (args.toList.map fun x => (s.ev x).strip) = some (as, [])) (hn : q → ∀ p ∈ needL s (fo :: args.toList), p) (hfn : q → FnD P f as r) (hd : dstOk X.nt o.dst = true) : OpT P X ops o s (s.app o.dst (.gd q r) []) := by
  intro Q a w hR0
  have hR0' := hR0
  obtain ⟨μ, hM, hsz, hdf, hr⟩ := hR0
  have hiff := gd_iff hgd hr
  by_cases hq : q
  · rw [if_pos (hiff.2 hq)]
    have := opT_call (ops := ops) (o := { o with guard := none }) (us := []) hop (by unfold gdOf; rfl) hfo has (hn hq) (hfn hq) hd Q a w hR0'
    rw [if_pos (by simp [Region.wanted])] at this
    have hm : ∀ a' w', R X (s.app o.dst r []) a' w' → R X (s.app o.dst (.gd q r) []) a' w' := by
      rintro a' w' ⟨μ', hM', hsz', hdf', hr'⟩
      refine ⟨μ', hM', hsz', hdf', fun t => ?_⟩
      have := hr' t
      cases hdst : o.dst with
      | none => rw [hdst] at this; exact this
      | some t' =>
        rw [hdst] at this
        by_cases ht : t = t'
        · subst ht
          simp only [St.app, upd_same] at this ⊢
          exact ⟨fun _ => this, fun hn => absurd hq hn⟩
        · simp only [St.app, upd_ne _ _ ht] at this ⊢
          exact this
    exact Oper.wp_mono (P := P) (Q := Q) hm this
  · rw [if_neg (fun hw => hq (hiff.1 hw))]
    exact ⟨μ, hM, by cases o.dst <;> simp [Act.put, hsz], by cases o.dst <;> exact hdf, put_rep (d := .gd q r) (v := undef) hr Kept.rfl' ⟨fun h => absurd h hq, fun _ => rfl⟩ hsz hd []⟩
end
end Go.Proofs.YtcdifgacoleckaaDoor.Ab
namespace Go.Proofs.YtcdifgacoleckaaDoor.Ab
open Go Go.RowKit

/-- what the result variables hold -/
def resL (T : Nat → Option TI) (s : St) : List ResultVar → Option (Prop × List D)
  | [] => some (True, [])
  | .tmp t :: r =>
    match resL T s r with
    | some (φ, ds) =>
      match s.tm t with
      | .gd q d => some (q ∧ φ, d :: ds)
      | d => some (φ, d :: ds)
    | none => none
  | .cell t ty :: r =>
    match T ty, resL T s r with
    | some ti, some (φ, ds) =>
      match effLoad ti s.mem (s.tm t) with
      | some (φ', d) => some (φ' ∧ φ, d :: ds)
      | none => none
    | _, _ => none
def toTup : D → Bool × Cs
  | .one (.e x) => (false, .es [x])
  | .agg c => (true, c)
  | _ => (false, .es [])
def tupOk : D → Bool
  | .one (.e _) => true
  | .agg _ => true
  | _ => false
def joinR : List D → D
  | [d] => d
  | ds => .tup (ds.map toTup)

def resOk : ResultVar → Bool
  | .tmp t => Nat.blt t 900000
  | .cell a _ => Nat.blt a 900000
/-- the function's answer, as data -/
def resE (T : Nat → Option TI) (s : St) (rs : List ResultVar) : Option (Prop × D) :=
  match (bif rs.all resOk then resL T s rs else none) with
  | some (φ, ds) =>
    match dataL s.mem ds with
    | some (xs, _) => bif xs.all tupOk then some (φ, joinR xs) else none
    | none => none
  | none => none

/-- a function's body ends well: its results are r -/
def Ends (T : Nat → Option TI) (rs : List ResultVar) (r : D) (e : Exit) (s : St) : Prop :=
  (e = .normal ∨ e = .ret) ∧ ∃ φ r', resE T s rs = some (φ, r') ∧ φ ∧ r' = r

def getArg : List D → Nat → D
  | [], _ => .any
  | d :: _, 0 => d
  | _ :: r, n + 1 => getArg r n
def St.start (args : List D) : St := ⟨getArg args, fun _ => none⟩

def resF (tmps : Array Value) (x : ResultVar) : Sem Value :=
  match x with
  | .tmp t => pure (tmps.getD t undef)
  | .cell a t => do loadVar t (← asAddr (tmps.getD a undef))

section
variable {P : Program} {T : Nat → Option TI} {X : Ctx}

theorem getArg_get : ∀ (l : List D) (i : Nat), getArg l i = (l[i]?).getD .any
  | [], i => by simp [getArg]
  | d :: r, 0 => rfl
  | d :: r, n + 1 => by rw [getArg, getArg_get r n]; simp

theorem resL_run (hT : TOk P T) {s : St} {a : Act} {w : World} {μ : Nat → Option Nat} (hM : RM X ⟨s.mem, μ⟩ w) (hr : ∀ t, RepD ⟨s.mem, μ⟩ (CW X ⟨s.mem, μ⟩ w) w (s.tm t) (slotV X.xg a.tmps t)) : ∀ {rs : List ResultVar} {φ : Prop} {ds : List D}, (∀ x ∈ rs, resOk x = true) → resL T s rs = some (φ, ds) → φ →
    ∃ vs : List Value, (rs.mapM (resF a.tmps)).run P w = .ok vs w ∧ ds.length = vs.length ∧ ∀ (i : Nat) d v, ds[i]? = some d → vs[i]? = some v → RepD ⟨s.mem, μ⟩ (CW X ⟨s.mem, μ⟩ w) w d v
  | [], φ, ds, _, h, _ => by cases h; exact ⟨[], rfl, rfl, fun i d v h => nomatch h⟩
  | .tmp t :: r, φ, ds, hok, h, hφ => by
    have hlt : t < 900000 := Nat.blt_eq.mp (hok _ (List.mem_cons_self ..))
    have hok' := fun x hx => hok x (List.mem_cons_of_mem _ hx)
    rw [resL] at h
    split at h
    · rename_i φ' ds' h1
      have key : ∃ d, ds = d :: ds' ∧ φ' ∧ RepD ⟨s.mem, μ⟩ (CW X ⟨s.mem, μ⟩ w) w d (a.tmps.getD t undef) := by
        have hrt := hr t
        rw [slotV_lt hlt] at hrt
        split at h
        · rename_i q d he; cases h; rw [he] at hrt; exact ⟨d, rfl, hφ.2, hrt.1 hφ.1⟩
        · cases h; exact ⟨_, rfl, hφ, hrt⟩
      obtain ⟨d0, rfl, hφ', hd0⟩ := key
      obtain ⟨vs, k1, k2, k3⟩ := resL_run hT hM hr hok' h1 hφ'
      refine ⟨a.tmps.getD t undef :: vs, by rw [List.mapM_cons]; simp only [resF, Sem.run_bind, Sem.run_pure, Result.andThen_ok, k1], by simp [k2], fun i d v hd hv => ?_⟩
      cases i with
      | zero => simp only [List.getElem?_cons_zero, Option.some.injEq] at hd hv; subst hd; subst hv; exact hd0
      | succ i => exact k3 i d v (by simpa using hd) (by simpa using hv)
    · cases h
  | .cell t ty :: r, φ, ds, hok, h, hφ => by
    have hlt : t < 900000 := Nat.blt_eq.mp (hok _ (List.mem_cons_self ..))
    have hok' := fun x hx => hok x (List.mem_cons_of_mem _ hx)
    rw [resL] at h
    split at h
    · rename_i ti φ' ds' hti h1
      split at h
      · rename_i φ'' d h2
        cases h
        obtain ⟨vs, k1, k2, k3⟩ := resL_run hT hM hr hok' h1 hφ.2
        obtain ⟨v, e1, e2⟩ := loadE_goes hT hM hti (slotV_lt hlt ▸ hr t) h2 hφ.1
        have hrun : (resF a.tmps (.cell t ty)).run P w = .ok v w := by
          show (do loadVar ty (← asAddr (a.tmps.getD t undef)) : Sem Value).run P w = .ok v w
          have hp : ∃ ad, a.tmps.getD t undef = .pointer (some ad) := by
            generalize a.tmps.getD t undef = u at e1
            unfold Instr.loadAt Instr.sureAddr at e1
            cases u with
            | pointer ad => cases ad with
              | none => simp at e1
              | some ad => exact ⟨ad, rfl⟩
            | _ => simp at e1
          obtain ⟨ad, hp⟩ := hp
          rw [hp] at e1 ⊢
          simpa [Instr.loadAt, Instr.sureAddr, asAddr] using e1
        refine ⟨v :: vs, by rw [List.mapM_cons]; simp only [Sem.run_bind, hrun, Sem.run_pure, Result.andThen_ok, k1], by simp [k2], fun i d v hd hv => ?_⟩
        cases i with
        | zero => simp only [List.getElem?_cons_zero, Option.some.injEq] at hd hv; subst hd; subst hv; exact e2
        | succ i => exact k3 i d v (by simpa using hd) (by simpa using hv)
      · cases h
    · cases h

theorem toTup_rep {C : Nat → Nat → Value → Prop} {w : World} {d : D} {v : Value} (h : RepD p0 C w d v) (hd : tupOk d = true) : RepT p0 C w (toTup d) v := by
  unfold tupOk at hd
  split at hd
  · rename_i x
    refine ⟨rfl, fun i y u hy hu => ?_⟩
    cases i with
    | zero => simp [Cs.d0] at hy hu; subst hy; subst hu; exact h
    | succ i => simp [Cs.d0] at hy
  · exact h
  · cases hd

theorem joinR_rep {C : Nat → Nat → Value → Prop} {w : World} {ds : List D} {vs : List Value} (h : RepAs C w ds vs) (hd : ds.all tupOk = true) : RepD p0 C w (joinR ds) (if h : vs.toArray.size = 1 then vs.toArray[0] else .tuple vs.toArray) := by
  by_cases h1 : vs.length = 1
  · obtain ⟨v, rfl⟩ := List.length_eq_one_iff.1 h1
    obtain ⟨d, rfl⟩ := List.length_eq_one_iff.1 (h.1.trans h1)
    exact h.2 0 d v rfl rfl
  · rw [dif_neg (by simpa using h1)]
    have hj : joinR ds = .tup (ds.map toTup) := by
      unfold joinR
      split
      · rename_i d
        exact absurd (by rw [← h.1]; rfl) h1
      · rfl
    rw [hj]
    refine ⟨vs, rfl, by simp [h.1], fun i x u hx hu => ?_⟩
    simp only [List.getElem?_map, Option.map_eq_some_iff] at hx
    obtain ⟨d, hd', rfl⟩ := hx
    exact toTup_rep (h.2 i d u hd' hu) (List.all_eq_true.1 hd d (List.mem_of_getElem? hd'))

theorem RepD.p0_own {C C' : Nat → Nat → Value → Prop} {w : World} {d : D} {v : Value} (h : ∀ b o u, C b o u → C' b o u) (hv : RepD p0 C w d v) : RepD p0 C' w d v := hv.kept (p0_kept h)

/-- a function by its body -/
theorem fn_intro (hT : TOk P T) {f : Nat} {fn : Func} {c : Code} (hf : P.funcs[f]? = some fn) (hb : fn.body = some c) (hname : (fn.name == "runtime.NumGoroutine") = false) {args : List D} {r : D} (hn : args.length ≤ fn.ntmps)
    (h : ∀ X : Ctx, X.nt = fn.ntmps → Tr P X c (St.start args) (Ends T fn.results.toList r)) (hbig : Nat.ble fn.ntmps 900000 = true := by rfl) (hlt : Nat.ble 1048576 f = false := by rfl) : FnD P f args r := by
  refine ⟨⟨fn, c, hf, hb, Bool.or_eq_false_iff.2 ⟨hname, hlt⟩⟩, fun w vs I hargs => ?_⟩
  have hlen : args.length = vs.size := by simpa using hargs.1
  let X : Ctx := ⟨w, I, fn.ntmps, Nat.le_of_ble_eq_true hbig, fun _ => False, fun _ => 0, []⟩
  refine calls_of_wp hf hb (wp_mono (h X rfl _ w ⟨fun _ => none, ⟨Bel.refl _, fun id blk hb => nomatch hb⟩, by show (vs ++ Array.replicate (fn.ntmps - vs.size) undef).size = fn.ntmps; simp; omega, rfl, fun t => ?_⟩) fun e a w' ⟨s', hE, hR⟩ => ?_)
  · show RepD p0 _ w (getArg args t) _
    rw [getArg_get]
    cases hd : args[t]? with
    | none => trivial
    | some d =>
      have ht : t < vs.size := by rw [← hlen]; exact (List.getElem?_eq_some_iff.1 hd).1
      have hv : slotV X.xg (vs ++ Array.replicate (fn.ntmps - vs.size) undef) t = vs[t] := by
        have := Nat.le_of_ble_eq_true hbig
        rw [slotV_lt (by omega), Array.getD_eq_getD_getElem?, Array.getElem?_append_left ht, Array.getElem?_eq_getElem ht]
        rfl
      simp only [Option.getD_some]
      rw [hv]
      refine (hargs.2 t d vs[t] hd (by simp [ht])).p0_own fun b o u h => ⟨h.1, fun _ => h.2, fun _ id blk hb => nomatch hb⟩
  · obtain ⟨hend, φ, r', hres, hφ, rfl⟩ := hE
    obtain ⟨μ, hM, hsz, hdf, hr⟩ := hR
    unfold resE at hres
    split at hres
    · rename_i φ' ds h1
      split at hres
      · rename_i xs us h2
        cases hall : xs.all tupOk with
        | false => simp [hall] at hres
        | true =>
          simp only [hall, cond_true, Option.some.injEq, Prod.mk.injEq] at hres
          obtain ⟨rfl, rfl⟩ := hres
          cases hro : fn.results.toList.all resOk with
          | false => rw [hro] at h1; cases h1
          | true =>
          rw [hro] at h1
          obtain ⟨us', k1, k2, k3⟩ := resL_run hT hM hr (fun x hx => List.all_eq_true.1 hro x hx) h1 hφ
          obtain ⟨r1, r2, r3, r4⟩ := RM.pubs us s'.mem hM (dataL_ok h2)
          have hd := dataL_rep (vs := us') r1 ⟨k2, fun i d v hd hv => (k3 i d v hd hv).kept r2⟩ h2 r3
          have hj := joinR_rep hd hall
          have hrun : (results fn a.tmps).run P w' = .ok (if h : us'.toArray.size = 1 then us'.toArray[0] else .tuple us'.toArray) w' := by
            have he : results fn a.tmps = (do let vs ← fn.results.mapM (resF a.tmps); pure (if h : vs.size = 1 then vs[0] else .tuple vs) : Sem Value) := rfl
            rw [he, Sem.run_bind, Array.mapM_eq_mapM_toList, Sem.run_map, k1]
            rfl
          have hfin : bodyPost P fn (fun e w'' => ∃ v, e = .returned v ∧ Below w.heap.size w w'' ∧ RepD p0 (CI' w w'' I) w'' (joinR xs) v) .normal a w' :=
            ⟨hdf, _, hrun, _, rfl, r1.bel.toBelow (fun _ h => h), hj.p0_own fun b o u hc => ⟨hc.1, (Nat.lt_or_ge b w.heap.size).imp (fun hlt => hc.2.1 fun h => h.elim (fun h => Nat.not_lt.2 h hlt) id) id⟩⟩
          rcases hend with rfl | rfl
          · exact hfin
          · exact hfin
      · cases hres
    · cases hres
end
end Go.Proofs.YtcdifgacoleckaaDoor.Ab
namespace Go.Proofs.YtcdifgacoleckaaDoor.Ab
open Go Go.RowKit

def kOf : TypeDesc → K
  | .slice e => .slice e
  | .array n e => .arr n e
  | .struct F => .struct (F.toList.map fun f => (f.offset, f.type))
  | .string => .str
  | .int k => .int k
  | .bool => .bool
  | .pointer e => .ptr e
  | .map k e => .map k e
  | _ => .other
theorem kOf_ok (d : TypeDesc) : KOk (kOf d) d := by
  cases d with
  | struct F => exact ⟨F, rfl, rfl⟩
  | slice e => rfl
  | array n e => rfl
  | string => rfl
  | int k => rfl
  | bool => rfl
  | pointer e => rfl
  | map k e => rfl
  | _ => exact ⟨(fun _ h => nomatch h), (fun _ _ h => nomatch h), (fun _ h => nomatch h), (fun h => nomatch h)⟩

def eqTyB (P : Program) (t : Nat) : TypeDesc → Bool
  | .struct F => !P.stoodInHeld t && !P.eqGuardType P.depth t && F.toList.all fun f => !(f.name == "_")
  | .array _ _ => !P.stoodInHeld t && !P.eqGuardType P.depth t
  | _ => true
theorem eqTyB_ok {P : Program} {t : Nat} {d : TypeDesc} (h : eqTyB P t d = true) (ha : (kOf d).agg = true) : EqTy P t d := by
  cases d with
  | struct F =>
    simp only [eqTyB, Bool.and_eq_true, Bool.not_eq_true', List.all_eq_true] at h
    refine ⟨h.1.1, h.1.2, fun F' e f hf => ?_⟩
    cases e
    have := h.2 f hf
    simpa using this
  | array n e =>
    simp only [eqTyB, Bool.and_eq_true, Bool.not_eq_true'] at h
    exact ⟨h.1, h.2, fun F' e => by cases e⟩
  | _ => cases ha
def intZ : TypeDesc → Value → Bool
  | .int _, .agg _ => false
  | .struct _, .agg _ => true
  | .struct _, _ => false
  | .array _ _, .agg _ => true
  | .array _ _, _ => false
  | _, _ => true
/-- what the program says of type t -/
def tiOf (P : Program) (t : Nat) : Option TI :=
  match P.info? t, P.underlying t with
  | some i, some d =>
    match i.zero with
    | some z => bif (Nat.beq z.cells.size i.size && z.cells.toList.all (·.oneCell')) && ((eqTyB P t d || !z.cells.toList.all plainZ) && intZ d z) then some ⟨i.size, i.bytes, kOf d, z.cells.toList⟩ else none
    | none => none
  | _, _ => none
theorem tiOf_ok {P : Program} {t : Nat} {ti : TI} (h : tiOf P t = some ti) : TIOk P t ti := by
  unfold tiOf at h
  split at h
  · rename_i i d h1 h2
    split at h
    · rename_i z hz
      cases hb : ((Nat.beq z.cells.size i.size && z.cells.toList.all (·.oneCell')) && ((eqTyB P t d || !z.cells.toList.all plainZ) && intZ d z)) with
      | false => rw [hb] at h; cases h
      | true =>
        rw [hb] at h
        cases h
        simp only [Bool.and_eq_true] at hb
        refine ⟨⟨i, d, z, h1, h2, rfl, rfl, kOf_ok d, hz, rfl, fun u hu => List.all_eq_true.1 hb.1.2 u hu⟩, ?_, fun ha hp d' hd' => ?_, fun i' z' k e1 e2 e3 cs e4 => ?_, fun i' z' e1 e2 e3 => ?_⟩
        · simpa using Nat.eq_of_beq_eq_true hb.1.1
        · rw [h2] at hd'
          cases hd'
          refine eqTyB_ok ?_ ha
          have h1 := hb.2.1
          rw [Bool.or_eq_true] at h1
          rcases h1 with h1 | h1
          · exact h1
          · rw [show z.cells.toList.all plainZ = true from hp] at h1; cases h1
        · rw [h1] at e1
          cases e1
          rw [hz] at e2
          cases e2
          subst e4
          cases d with
          | int k => exact absurd hb.2.2 (by simp [intZ])
          | _ => cases e3
        · rw [h1] at e1
          cases e1
          rw [hz] at e2
          cases e2
          have h2' := hb.2.2
          cases z with
          | agg cs => exact ⟨cs, rfl⟩
          | _ => cases d <;> first | (cases e3; done) | (cases h2'; done)
    · cases h
  · cases h

def tabOf (l : List (Option TI)) (t : Nat) : Option TI := l.getD t none
theorem tab_ok {P : Program} {l : List (Option TI)} {n : Nat} (h : l = (List.range n).map fun t => match l.getD t none with | some _ => tiOf P t | none => none) : TOk P (tabOf l) := by
  intro t ti ht
  unfold tabOf at ht
  have h1 : l[t]? = some (some ti) := by
    rw [List.getD_eq_getElem?_getD] at ht
    cases hg : l[t]? with
    | none => rw [hg] at ht; cases ht
    | some x => rw [hg] at ht; simp only [Option.getD_some] at ht; rw [ht]
  rw [h] at h1
  simp only [List.getElem?_map, Option.map_eq_some_iff] at h1
  obtain ⟨k, hk, h2⟩ := h1
  obtain rfl : t = k := by
    have := List.getElem?_eq_some_iff.1 hk
    obtain ⟨hlt, he⟩ := this
    simpa using he
  rw [ht] at h2
  exact tiOf_ok h2
end Go.Proofs.YtcdifgacoleckaaDoor.Ab
namespace Go.Proofs.YtcdifgacoleckaaDoor.Ab
open Go Go.RowKit

def lookT : List (Nat × D) → Nat → D
  | [], _ => .any
  | (k, d) :: r, t => bif Nat.beq t k then d else lookT r t
def lookM : List (Nat × Blk) → Nat → Option Blk
  | [], _ => none
  | (k, b) :: r, t => bif Nat.beq t k then some b else lookM r t
/-- a state written out -/
def St.of (ts : List (Nat × D)) (ms : List (Nat × Blk)) : St := ⟨lookT ts, lookM ms⟩

def Cur (m : Mem) (i v : Nat) : Prop :=
  match m i with
  | some b => b.ver = v
  | none => False
def inB (l : List Nat) (i : Nat) : Bool :=
  match l with
  | [] => false
  | k :: r => Nat.beq i k || inB r i

/-- what closures captured: the same variables -/
def ClSim (ad : List Nat) (m m' : Mem) : List (Nat × Nat × Nat) → List (Nat × Nat × Nat) → Prop
  | [], [] => True
  | c :: r, d :: s => (d.1 = c.1 ∧ d.2.2 = c.2.2 ∧ inB ad c.1 = false ∧ Cur m c.1 c.2.1 ∧ Cur m' c.1 d.2.1) ∧ ClSim ad m m' r s
  | _, _ => False
def D0Sim (ad : List Nat) (m m' : Mem) : D0 → D0 → Prop
  | .e a, .e b => a = b
  | .nil, .nil => True
  | .nil, .own i v => inB ad i = true ∧ Cur m' i v
  | .nil, .e b => b = .sl []
  | .ptr i v o, .ptr i' v' o' => i' = i ∧ o' = o ∧ inB ad i = false ∧ Cur m i v ∧ Cur m' i v'
  | .rptr i v a b, .rptr i' v' a' b' => i' = i ∧ a' = a ∧ b' = b ∧ inB ad i = false ∧ Cur m i v ∧ Cur m' i v'
  | .eptr a, .eptr b => a = b
  | .eptr a, .e b => b = .pt a
  | .own i v, .own i' v' => i' = i ∧ inB ad i = false ∧ Cur m i v ∧ Cur m' i v'
  | .clo f [], .clo g [] => f = g
  | .clo f (c :: cs), .clo g (d :: ds) => f = g ∧ ClSim ad m m' (c :: cs) (d :: ds)
  | .bsl i v o z n, .bsl i' v' o' z' n' => i' = i ∧ o' = o ∧ z' = z ∧ n' = n ∧ inB ad i = false ∧ Cur m i v ∧ Cur m' i v'
  | .hnd i v, .hnd i' v' => i' = i ∧ inB ad i = false ∧ Cur m i v ∧ Cur m' i v'
  | _, _ => False
def DsSim (ad : List Nat) (m m' : Mem) : List D0 → List D0 → Prop
  | [], [] => True
  | x :: r, y :: s => D0Sim ad m m' x y ∧ DsSim ad m m' r s
  | _, _ => False
def CsSim (ad : List Nat) (m m' : Mem) : Cs → Cs → Prop
  | .es a, .es b => a = b
  | c, c' => DsSim ad m m' c.d0 c'.d0
def TSim (ad : List Nat) (m m' : Mem) : List (Bool × Cs) → List (Bool × Cs) → Prop
  | [], [] => True
  | x :: r, y :: s => (x.1 = y.1 ∧ CsSim ad m m' x.2 y.2) ∧ TSim ad m m' r s
  | _, _ => False
def DSim (ad : List Nat) (m m' : Mem) : D → D → Prop
  | _, .any => True
  | .one x, .one y => D0Sim ad m m' x y
  | .agg c, .agg c' => CsSim ad m m' c c'
  | .tup xs, .tup ys => TSim ad m m' xs ys
  | .gd q d, .gd q' d' => q = q' ∧ d = d'  ∧ False
  | _, _ => False
def BodySim (ad : List Nat) (m m' : Mem) : Body → Body → Prop
  | .box c, .box c' => CsSim ad m m' c c'
  | .row z xs, .row z' xs' => z = z' ∧ xs = xs'
  | .raw o, .raw o' => o = o'
  | _, _ => False
def BSim (ad : List Nat) (m m' : Mem) (id : Nat) (b' : Blk) : Prop :=
  bif inB ad id then
    match b' with
    | ⟨_, .row z [], 0⟩ => 0 < z
    | _ => False
  else
    match m id with
    | some b => BodySim ad m m' b.body b'.body ∧ b.pub = b'.pub
    | none => False

def tmOk (ad : List Nat) (s s' : St) : List (Nat × D) → Prop
  | [] => True
  | (t, d) :: r => DSim ad s.mem s'.mem (s.tm t) d ∧ tmOk ad s s' r
def memOk (ad : List Nat) (s s' : St) : List (Nat × Blk) → Prop
  | [] => True
  | (t, b) :: r => BSim ad s.mem s'.mem t b ∧ memOk ad s s' r

section
variable {X : Ctx}

theorem lookT_ok {ad : List Nat} {s s' : St} : ∀ {l : List (Nat × D)}, tmOk ad s s' l → ∀ t, DSim ad s.mem s'.mem (s.tm t) (lookT l t)
  | [], _, t => by cases s.tm t <;> trivial
  | (k, d) :: r, h, t => by
    rw [lookT]
    cases hk : Nat.beq t k with
    | true => obtain rfl := Nat.eq_of_beq_eq_true hk; exact h.1
    | false => exact lookT_ok h.2 t
theorem lookM_ok {ad : List Nat} {s s' : St} : ∀ {l : List (Nat × Blk)}, memOk ad s s' l → ∀ id b', lookM l id = some b' → BSim ad s.mem s'.mem id b'
  | [], _, id, b', h => by cases h
  | (k, b) :: r, h, id, b', hb => by
    rw [lookM] at hb
    cases hk : Nat.beq id k with
    | true => obtain rfl := Nat.eq_of_beq_eq_true hk; simp only [hk, cond_true, Option.some.injEq] at hb; subst hb; exact h.1
    | false => simp only [hk, cond_false] at hb; exact lookM_ok h.2 id b' hb

theorem Cur.get {m : Mem} {i v : Nat} (h : Cur m i v) : ∃ b, m i = some b ∧ b.ver = v := by
  unfold Cur at h
  split at h
  · rename_i b hb; exact ⟨b, hb, h⟩
  · exact h.elim

theorem le_of {ad : List Nat} {s : St} {ts : List (Nat × D)} {ms : List (Nat × Blk)} (ht : tmOk ad s (St.of ts ms) ts) (hm : memOk ad s (St.of ts ms) ms) : Le X s (St.of ts ms) := by
  classical
  intro a w ⟨μ, hM, hsz, hdf, hr⟩
  let m' : Mem := lookM ms
  let μ' : Nat → Option Nat := fun id => if inB ad id = true ∨ m' id = none then none else μ id
  have hbs : ∀ id b', m' id = some b' → BSim ad s.mem m' id b' := fun id b' h => lookM_ok hm id b' h
  have hμ : ∀ id b', m' id = some b' → inB ad id = false → μ' id = μ id := fun id b' h1 h2 => by
    show (if inB ad id = true ∨ m' id = none then none else μ id) = μ id
    rw [if_neg (by rw [h1, h2]; simp)]
  have hμad : ∀ id, inB ad id = true → μ' id = none := fun id h => by
    show (if inB ad id = true ∨ m' id = none then none else μ id) = none
    rw [if_pos (.inl h)]
  have hback : ∀ id b' g, m' id = some b' → μ' id = some g → inB ad id = false ∧ μ id = some g := fun id b' g h1 h2 => by
    cases hi : inB ad id with
    | true => rw [hμad id hi] at h2; cases h2
    | false => rw [hμ id b' h1 hi] at h2; exact ⟨rfl, h2⟩
  have hbsim : ∀ id b', m' id = some b' → inB ad id = false → ∃ b, s.mem id = some b ∧ BodySim ad s.mem m' b.body b'.body ∧ b.pub = b'.pub := fun id b' h1 h2 => by
    have := hbs id b' h1
    unfold BSim at this
    simp only [h2, cond_false] at this
    split at this
    · rename_i b hb; exact ⟨b, hb, this⟩
    · exact this.elim
  let p : Rho := ⟨s.mem, μ⟩
  let p' : Rho := ⟨m', μ'⟩
  have hC : ∀ b o u, CW X p w b o u → CW X p' w b o u := fun b o u ⟨k1, k2, k3⟩ => ⟨k1, k2, fun hb id b' m1 m2 => by
    obtain ⟨h1, h2⟩ := hback id b' b m1 m2
    obtain ⟨b0, h3, _, h4⟩ := hbsim id b' m1 h1
    rw [← h4]
    exact k3 hb id b0 h3 h2⟩
  have hshape : ∀ (b b' : Body), BodySim ad s.mem m' b b' → b'.shape = b.shape := fun b b' h => by
    cases b with
    | raw o => cases b' with
      | raw o' => rfl
      | row z xs => exact h.elim
      | box c => exact h.elim
    | row z xs => cases b' with
      | row z' xs' => obtain ⟨rfl, rfl⟩ := h; rfl
      | box c => exact h.elim
      | raw o => exact h.elim
    | box c => cases b' with
      | row z' xs' => exact h.elim
      | raw o => exact h.elim
      | box c' =>
        have hlen : ∀ (l l' : List D0), DsSim ad s.mem m' l l' → l'.length = l.length := fun l => by
          induction l with
          | nil => intro l' h; cases l' with
            | nil => rfl
            | cons => exact h.elim
          | cons x l ih => intro l' h; cases l' with
            | nil => exact h.elim
            | cons y l' => simp [ih l' h.2]
        show (0, c'.d0.length) = (0, c.d0.length)
        congr 1
        have h : CsSim ad s.mem m' c c' := h
        cases c with
        | es x => cases c' with
          | es y => rw [show x = y from h]
          | ds y => exact hlen _ _ h
        | ds x => exact hlen _ _ h
  have h0 : ∀ x y v, D0Sim ad s.mem m' x y → Rep0 p (CW X p w) w x v → Rep0 p' (CW X p' w) w y v := by
    intro x y v hs hv
    unfold D0Sim at hs
    split at hs
    · subst hs; exact RepE.mono hC hv
    · exact hv
    · rename_i i v'
      obtain ⟨h1, h2⟩ := hs
      obtain ⟨b', h3, h4⟩ := h2.get
      obtain rfl : v = .slice none 0 0 := hv
      have hb := hbs i b' h3
      unfold BSim at hb
      simp only [h1, cond_true] at hb
      split at hb
      · rename_i ver z
        exact ⟨rfl, _, h3, Nat.le_of_eq h4.symm, fun _ => ⟨z, 0, rfl, hb, .inl ⟨rfl, none, rfl⟩⟩⟩
      · exact hb.elim
    · subst hs
      obtain rfl : v = .slice none 0 0 := hv
      exact RepE.sl none 0 0 0 0 0 (fun _ _ => undef) [] rfl (Nat.le_refl _) (Nat.zero_le _) (fun h => absurd h (by omega)) (fun cs hc => nomatch hc) (fun i cs j e hi => nomatch hi) (fun i cs j e hi => nomatch hi)
    · rename_i i v1 o i' v2 o'
      obtain ⟨rfl, rfl, h1, h2, h3⟩ := hs
      obtain ⟨b, h4, h5⟩ := h2.get
      obtain ⟨b', h6, h7⟩ := h3.get
      obtain ⟨k0, blk, k1, k2, k3⟩ := hv
      have k1 : s.mem i' = some blk := k1
      rw [h4] at k1
      cases k1
      obtain ⟨g, k4, k5⟩ := k3 h5.symm
      exact ⟨k0, b', h6, Nat.le_of_eq h7.symm, fun _ => ⟨g, (hμ i' b' h6 h1).trans k4, k5⟩⟩
    · rename_i i v1 a1 b1 i' v2 a2 b2
      obtain ⟨rfl, rfl, rfl, h1, h2, h3⟩ := hs
      obtain ⟨b, h4, h5⟩ := h2.get
      obtain ⟨b', h6, h7⟩ := h3.get
      obtain ⟨k0, blk, k1, k2, k3⟩ := hv
      have k1 : s.mem i' = some blk := k1
      rw [h4] at k1
      cases k1
      obtain ⟨g, k4, k5⟩ := k3 h5.symm
      obtain ⟨b0, q1, q2, _⟩ := hbsim i' b' h6 h1
      rw [h4] at q1
      cases q1
      exact ⟨k0, b', h6, Nat.le_of_eq h7.symm, fun _ => ⟨g, (hμ i' b' h6 h1).trans k4, by rw [hshape _ _ q2]; exact k5⟩⟩
    · subst hs
      obtain ⟨b, o, rfl, hc⟩ := hv
      refine ⟨b, o, rfl, fun j e he => ?_⟩
      obtain ⟨u, k1, k2⟩ := hc j e he
      exact ⟨u, hC _ _ _ k1, k2.mono hC⟩
    · subst hs
      exact (ep_pt hv).mono hC
    · rename_i i v1 i' v2
      obtain ⟨rfl, h1, h2, h3⟩ := hs
      obtain ⟨b, h4, h5⟩ := h2.get
      obtain ⟨b', h6, h7⟩ := h3.get
      obtain ⟨k0, blk, k1, k2, k3⟩ := hv
      have k1 : s.mem i' = some blk := k1
      rw [h4] at k1
      cases k1
      obtain ⟨z, n, k4, k5, k6⟩ := k3 h5.symm
      obtain ⟨b0, q1, q2, _⟩ := hbsim i' b' h6 h1
      rw [h4] at q1
      cases q1
      refine ⟨k0, b', h6, Nat.le_of_eq h7.symm, fun _ => ⟨z, n, by rw [hshape _ _ q2]; exact k4, k5, ?_⟩⟩
      rcases k6 with k6 | ⟨g, cap, g1, g2⟩
      · exact .inl k6
      · exact .inr ⟨g, cap, (hμ i' b' h6 h1).trans g1, g2⟩
    · subst hs
      obtain ⟨vs, rfl, hl, _⟩ := hv
      exact ⟨vs, rfl, hl, fun i c u h => nomatch h⟩
    · rename_i f c cs g d ds
      obtain ⟨rfl, hs⟩ := hs
      obtain ⟨vs, rfl, hl, hv⟩ := hv
      have key : ∀ (cs ds : List (Nat × Nat × Nat)) (vs : List Value), ClSim ad s.mem m' cs ds → cs.length = vs.length → (∀ (i : Nat) c u, cs[i]? = some c → vs[i]? = some u → Live p c.1 c.2.1 fun g => u = .pointer (some ⟨g, c.2.2, none⟩)) →
          ds.length = vs.length ∧ ∀ (i : Nat) c u, ds[i]? = some c → vs[i]? = some u → Live p' c.1 c.2.1 fun g => u = .pointer (some ⟨g, c.2.2, none⟩) := by
        intro cs
        induction cs with
        | nil => intro ds vs h h1 _; cases ds with
          | nil => exact ⟨h1, fun i c u h => nomatch h⟩
          | cons => exact h.elim
        | cons c cs ih => intro ds vs h h1 h2; cases ds with
          | nil => exact h.elim
          | cons d ds => cases vs with
            | nil => cases h1
            | cons v vs =>
              obtain ⟨⟨q1, q2, q3, q4, q5⟩, hr⟩ := h
              have h3 := ih ds vs hr (by simpa using h1) (fun i c u hc hu => h2 (i + 1) c u (by simpa using hc) (by simpa using hu))
              refine ⟨by simp [h3.1], fun i c' u hc hu => ?_⟩
              cases i with
              | succ i => exact h3.2 i c' u (by simpa using hc) (by simpa using hu)
              | zero =>
                simp at hc hu
                subst hc
                subst hu
                obtain ⟨blk, k1, k2, k3⟩ := h2 0 c v rfl rfl
                obtain ⟨b, h4, h5⟩ := q4.get
                obtain ⟨b', h6, h7⟩ := q5.get
                have k1 : s.mem c.1 = some blk := k1
                rw [h4] at k1
                cases k1
                obtain ⟨g, k4, k5⟩ := k3 h5.symm
                rw [q1, q2]
                exact ⟨b', h6, Nat.le_of_eq h7.symm, fun _ => ⟨g, (hμ c.1 b' h6 q3).trans k4, k5⟩⟩
      obtain ⟨e1, e2⟩ := key _ _ _ hs hl hv
      exact ⟨vs, rfl, e1, e2⟩
    · rename_i i v1 o1 z1 n1 i' v2 o2 z2 n2
      obtain ⟨rfl, rfl, rfl, rfl, h1, h2, h3⟩ := hs
      obtain ⟨b, h4, h5⟩ := h2.get
      obtain ⟨b', h6, h7⟩ := h3.get
      obtain ⟨k0, blk, k1, k2, k3⟩ := hv
      have k1 : s.mem i' = some blk := k1
      rw [h4] at k1
      cases k1
      obtain ⟨k4, k5, g, cap, g1, g2⟩ := k3 h5.symm
      obtain ⟨b0, q1, q2, _⟩ := hbsim i' b' h6 h1
      rw [h4] at q1
      cases q1
      exact ⟨k0, b', h6, Nat.le_of_eq h7.symm, fun _ => ⟨k4, by rw [hshape _ _ q2]; exact k5, g, cap, (hμ i' b' h6 h1).trans g1, g2⟩⟩
    · rename_i i v1 i' v2
      obtain ⟨rfl, h1, h2, h3⟩ := hs
      obtain ⟨b, h4, h5⟩ := h2.get
      obtain ⟨b', h6, h7⟩ := h3.get
      obtain ⟨k0, blk, k1, k2, k3⟩ := hv
      have k1 : s.mem i' = some blk := k1
      rw [h4] at k1
      cases k1
      obtain ⟨g, k4, k5⟩ := k3 h5.symm
      exact ⟨k0, b', h6, Nat.le_of_eq h7.symm, fun _ => ⟨g, (hμ i' b' h6 h1).trans k4, k5⟩⟩
    · exact hs.elim
  have hds : ∀ (l l' : List D0) (vs : List Value), DsSim ad s.mem m' l l' → Rep2 p (CW X p w) w l vs → Rep2 p' (CW X p' w) w l' vs := fun l => by
    induction l with
    | nil => intro l' vs h hr; cases l' with
      | nil => exact ⟨hr.1, fun i x u h => nomatch h⟩
      | cons => exact h.elim
    | cons x l ih => intro l' vs h hr; cases l' with
      | nil => exact h.elim
      | cons y l' => cases vs with
        | nil => have := hr.1; simp at this
        | cons v vs =>
          have h1 := ih l' vs h.2 ⟨by simpa using hr.1, fun i x u hx hu => hr.2 (i + 1) x u (by simpa using hx) (by simpa using hu)⟩
          refine ⟨by simp [h1.1], fun i x' u hx hu => ?_⟩
          cases i with
          | zero => simp at hx hu; subst hx; subst hu; exact h0 _ _ _ h.1 (hr.2 0 _ _ rfl rfl)
          | succ i => exact h1.2 i x' u (by simpa using hx) (by simpa using hu)
  have hes : ∀ (es : List E) (vs : List Value), Rep2 p (CW X p w) w (es.map .e) vs → Rep2 p' (CW X p' w) w (es.map .e) vs := fun es vs hr => ⟨hr.1, fun i x u hx hu => by
    have h1 := hr.2 i x u hx hu
    simp only [List.getElem?_map, Option.map_eq_some_iff] at hx
    obtain ⟨e, _, rfl⟩ := hx
    exact RepE.mono hC h1⟩
  have hcs : ∀ (c c' : Cs) (vs : List Value), CsSim ad s.mem m' c c' → Rep2 p (CW X p w) w c.d0 vs → Rep2 p' (CW X p' w) w c'.d0 vs := fun c c' vs h hr => by
    cases c with
    | es x => cases c' with
      | es y => rw [← show x = y from h]; exact hes x vs hr
      | ds y => exact hds _ _ vs h hr
    | ds x => exact hds _ _ vs h hr
  refine ⟨μ', ⟨hM.bel, fun id b' hb => ?_⟩, hsz, hdf, fun t => ?_⟩
  · have hb : m' id = some b' := hb
    cases hi : inB ad id with
    | true =>
      have hbs' := hbs id b' hb
      unfold BSim at hbs'
      simp only [hi, cond_true] at hbs'
      split at hbs'
      · rename_i ver z
        have : (⟨(St.of ts ms).mem, μ'⟩ : Rho).μ id = none := hμad id hi
        unfold BlkOk
        rw [this]
        exact ⟨rfl, rfl, hbs', by simp⟩
      · exact hbs'.elim
    | false =>
      obtain ⟨b, h1, h2, h3⟩ := hbsim id b' hb hi
      have hbo := hM.blk id b h1
      have hμe : (⟨(St.of ts ms).mem, μ'⟩ : Rho).μ id = μ id := hμ id b' hb hi
      have hcl : ∀ cur : Array Value, (∀ (i : Nat) x, b.cells[i]? = some x → ∃ u, cur[i]? = some u ∧ Rep0 p (CW X p w) w x u) → (∀ (i : Nat) x, b'.cells[i]? = some x → ∃ u, cur[i]? = some u ∧ Rep0 p' (CW X p' w) w x u) ∧ b'.cells.length = b.cells.length := fun cur hc => by
        have hlist : ∃ vs : List Value, Rep2 p (CW X p w) w b.cells vs ∧ ∀ (i : Nat) u, vs[i]? = some u → cur[i]? = some u := by
          refine ⟨(List.range b.cells.length).map fun i => cur.getD i undef, ⟨by simp, fun i x u hx hu => ?_⟩, fun i u hu => ?_⟩
          · obtain ⟨u', k1, k2⟩ := hc i x hx
            simp only [List.getElem?_map, Option.map_eq_some_iff] at hu
            obtain ⟨j, hj, rfl⟩ := hu
            have : j = i := by
              have := List.getElem?_eq_some_iff.1 hj
              obtain ⟨_, he⟩ := this
              simpa using he.symm
            subst this
            rw [Array.getD_eq_getD_getElem?, k1]
            exact k2
          · simp only [List.getElem?_map, Option.map_eq_some_iff] at hu
            obtain ⟨j, hj, rfl⟩ := hu
            obtain ⟨hlt, he⟩ := List.getElem?_eq_some_iff.1 hj
            have : j = i := by simpa using he.symm
            subst this
            obtain ⟨u', k1, k2⟩ := hc j _ (List.getElem?_eq_getElem (by simpa using hlt))
            rw [Array.getD_eq_getD_getElem?, k1]
            rfl
        obtain ⟨vs, q1, q2⟩ := hlist
        have q3 : Rep2 p' (CW X p' w) w b'.cells vs := by
          obtain ⟨v1, bd1, pb1⟩ := b
          obtain ⟨v2, bd2, pb2⟩ := b'
          cases bd1 with
          | raw o => cases bd2 with
            | raw o' => exact ⟨q1.1, fun i x u h => nomatch h⟩
            | row z xs => exact h2.elim
            | box c => exact h2.elim
          | row z xs => cases bd2 with
            | row z' xs' => obtain ⟨rfl, rfl⟩ := h2; exact hes _ vs q1
            | box c => exact h2.elim
            | raw o => exact h2.elim
          | box c => cases bd2 with
            | row z' xs' => exact h2.elim
            | raw o => exact h2.elim
            | box c' => exact hcs c c' vs h2 q1
        refine ⟨fun i x hx => ?_, by rw [q3.1, q1.1]⟩
        have hl : i < vs.length := by rw [← q3.1]; exact (List.getElem?_eq_some_iff.1 hx).1
        exact ⟨vs[i], q2 i _ (List.getElem?_eq_getElem hl), q3.2 i x _ hx (List.getElem?_eq_getElem hl)⟩
      have hok : b.body.ok → b'.body.ok := fun hk => by
        obtain ⟨v1, bd1, pb1⟩ := b
        obtain ⟨v2, bd2, pb2⟩ := b'
        cases bd1 with
        | raw o => cases bd2 with
          | raw o' => rw [← show o = o' from h2]; exact hk
          | row z xs => exact h2.elim
          | box c => exact h2.elim
        | row z xs => cases bd2 with
          | row z' xs' => obtain ⟨rfl, rfl⟩ := h2; exact hk
          | box c => exact h2.elim
          | raw o => exact h2.elim
        | box c => cases bd2 with
          | row z' xs' => exact h2.elim
          | raw o => exact h2.elim
          | box c' => trivial
      have hokN : b.body.okN → b'.body.okN := fun hk => by
        obtain ⟨v1, bd1, pb1⟩ := b
        obtain ⟨v2, bd2, pb2⟩ := b'
        cases bd1 with
        | raw o => exact hk.elim
        | row z xs => cases bd2 with
          | row z' xs' => obtain ⟨rfl, rfl⟩ := h2; exact hk
          | box c => exact h2.elim
          | raw o => exact h2.elim
        | box c => cases bd2 with
          | row z' xs' => exact h2.elim
          | raw o => exact h2.elim
          | box c' => trivial
      have hobj : ∀ c e l h, b'.body.obj c e l h = b.body.obj c e l h := fun c e l h => by
        obtain ⟨v1, bd1, pb1⟩ := b
        obtain ⟨v2, bd2, pb2⟩ := b'
        cases bd1 with
        | raw o => cases bd2 with
          | raw o' => exact congrArg Raw.obj (show o = o' from h2).symm
          | row z xs => exact h2.elim
          | box c => exact h2.elim
        | row z xs => cases bd2 with
          | row z' xs' => rfl
          | box c => exact h2.elim
          | raw o => exact h2.elim
        | box c => cases bd2 with
          | row z' xs' => exact h2.elim
          | raw o => exact h2.elim
          | box c' => rfl
      unfold BlkOk at hbo ⊢
      rw [hμe]
      simp only at hbo
      split
      · rename_i hn
        simp only [hn] at hbo
        have hcc := hcl #[] (fun i x hx => by rw [hbo.1] at hx; cases hx)
        exact ⟨List.eq_nil_of_length_eq_zero (by rw [hcc.2, hbo.1]; rfl), by rw [← h3]; exact hbo.2.1, hokN hbo.2.2⟩
      · rename_i g hg
        simp only [hg] at hbo
        obtain ⟨b0, b1, b2, b3, cur, et, lo, hi', b4, b5, b6, b7⟩ := hbo
        have hcc := hcl cur b7
        exact ⟨hok b0, b1, fun id2 blk2 q1 q2 => by
          obtain ⟨e1, e2⟩ := hback id2 blk2 g q1 q2
          obtain ⟨b4', e3, _⟩ := hbsim id2 blk2 q1 e1
          exact b2 id2 b4' e3 e2, by rw [hcc.2, ← h3]; exact b3, cur, et, lo, hi', by rw [hobj]; exact b4, b5, by rw [hcc.2]; exact b6, hcc.1⟩
  · have hd := lookT_ok ht t
    have h1 := hr t
    show RepD p' (CW X p' w) w (lookT ts t) (slotV X.xg a.tmps t)
    generalize lookT ts t = d' at hd
    generalize s.tm t = d at hd h1
    unfold DSim at hd
    split at hd
    · trivial
    · exact h0 _ _ _ hd h1
    · rename_i c c'
      obtain ⟨vs, hv, hr2⟩ := h1
      exact ⟨vs, hv, hcs c c' vs hd hr2⟩
    · rename_i xs ys
      obtain ⟨vs, hv, hl, hx⟩ := h1
      have key : ∀ (xs ys : List (Bool × Cs)) (vs : List Value), TSim ad s.mem m' xs ys → xs.length = vs.length → (∀ (i : Nat) x u, xs[i]? = some x → vs[i]? = some u → RepT p (CW X p w) w x u) →
          ys.length = vs.length ∧ ∀ (i : Nat) x u, ys[i]? = some x → vs[i]? = some u → RepT p' (CW X p' w) w x u := by
        intro xs
        induction xs with
        | nil => intro ys vs h h1 _; cases ys with
          | nil => exact ⟨h1, fun i x u h => nomatch h⟩
          | cons => exact h.elim
        | cons x xs ih => intro ys vs h h1 h2; cases ys with
          | nil => exact h.elim
          | cons y ys => cases vs with
            | nil => cases h1
            | cons v vs =>
              obtain ⟨⟨q1, q2⟩, hr⟩ := h
              have h3 := ih ys vs hr (by simpa using h1) (fun i x u hx hu => h2 (i + 1) x u (by simpa using hx) (by simpa using hu))
              refine ⟨by simp [h3.1], fun i x' u hx hu => ?_⟩
              cases i with
              | succ i => exact h3.2 i x' u (by simpa using hx) (by simpa using hu)
              | zero =>
                simp at hx hu
                subst hx
                subst hu
                have h4 := h2 0 x v rfl rfl
                obtain ⟨bx, cx⟩ := x
                obtain ⟨b', c'⟩ := y
                obtain rfl : bx = b' := q1
                cases bx with
                | true => obtain ⟨us, rfl, h5⟩ := h4; exact ⟨us, rfl, hcs _ _ us q2 h5⟩
                | false => exact hcs _ _ [v] q2 h4
      obtain ⟨e1, e2⟩ := key _ _ _ hd hl hx
      exact ⟨vs, hv, e1, e2⟩
    · exact hd.2.2.elim
    · exact hd.elim
end
end Go.Proofs.YtcdifgacoleckaaDoor.Ab
namespace Go.Proofs.YtcdifgacoleckaaDoor.Ab
open Go Go.RowKit

section
variable {α : Type}
def fN (n : Nat) (k : Nat → α) : α :=
  match n with
  | 0 => k 0
  | n + 1 => k (n + 1)
def fE (x : E) (k : E → α) : α :=
  match x with
  | .v (.int a n) => k (.v (.int a n))
  | .v (.bool b) => k (.v (.bool b))
  | .v (.string s) => k (.v (.string s))
  | .v x => k (.v x)
  | .sl xs => k (.sl xs)
  | .pt cs => k (.pt cs)
def fD0 (x : D0) (k : D0 → α) : α :=
  match x with
  | .e x => fE x fun x => k (.e x)
  | .nil => k .nil
  | .ptr i v o => fN v fun v => k (.ptr i v o)
  | .rptr i v a b => fN v fun v => k (.rptr i v a b)
  | .eptr cs => k (.eptr cs)
  | .own i v => fN v fun v => k (.own i v)
  | .clo f c => k (.clo f c)
  | .bsl i v o z n => fN v fun v => k (.bsl i v o z n)
  | .hnd i v => fN v fun v => k (.hnd i v)
def fL (xs : List D0) (k : List D0 → α) : α :=
  match xs with
  | [] => k []
  | x :: r => fD0 x fun x => fL r fun r => k (x :: r)
def fC (c : Cs) (k : Cs → α) : α :=
  match c with
  | .es xs => k (.es xs)
  | .ds xs => fL xs fun xs => k (.ds xs)
def fD (d : D) (k : D → α) : α :=
  match d with
  | .any => k .any
  | .one x => fD0 x fun x => k (.one x)
  | .agg c => fC c fun c => k (.agg c)
  | .tup xs => k (.tup xs)
  | .gd q d => fD d fun d => k (.gd q d)
def fB (b : Blk) (k : Blk → α) : α :=
  match b with
  | ⟨v, .box c, p⟩ => fN v fun v => fC c fun c => k ⟨v, .box c, p⟩
  | ⟨v, .row z xs, p⟩ => fN v fun v => k ⟨v, .row z xs, p⟩
  | ⟨v, .raw o, p⟩ => fN v fun v => k ⟨v, .raw o, p⟩
def fU (us : Upds) (k : Upds → α) : α :=
  match us with
  | [] => k []
  | (i, b) :: r => fB b fun b => fU r fun r => k ((i, b) :: r)

theorem fN_eq (n : Nat) (k : Nat → α) : fN n k = k n := by cases n <;> rfl
theorem fE_eq (x : E) (k : E → α) : fE x k = k x := by
  cases x with
  | v x => cases x <;> rfl
  | sl xs => rfl
  | pt cs => rfl
theorem fD0_eq (x : D0) (k : D0 → α) : fD0 x k = k x := by
  cases x <;> simp only [fD0, fE_eq, fN_eq]
theorem fL_eq (xs : List D0) (k : List D0 → α) : fL xs k = k xs := by
  induction xs generalizing k with
  | nil => rfl
  | cons x r ih => simp only [fL, fD0_eq, ih]
theorem fC_eq (c : Cs) (k : Cs → α) : fC c k = k c := by cases c <;> simp only [fC, fL_eq]
theorem fD_eq (d : D) (k : D → α) : fD d k = k d := by
  induction d generalizing k with
  | gd q d ih => simp only [fD, ih]
  | any => rfl
  | one x => simp only [fD, fD0_eq]
  | agg c => simp only [fD, fC_eq]
  | tup xs => rfl
theorem fB_eq (b : Blk) (k : Blk → α) : fB b k = k b := by
  obtain ⟨v, bd, p⟩ := b
  cases bd <;> simp only [fB, fN_eq, fC_eq]
theorem fU_eq (us : Upds) (k : Upds → α) : fU us k = k us := by
  induction us generalizing k with
  | nil => rfl
  | cons u r ih => obtain ⟨i, b⟩ := u; simp only [fU, fB_eq, ih]
end

def updM (m : Mem) : Upds → Mem
  | [] => m
  | [(i, b)] => upd m i (some b)
  | (i, b) :: r => updM (upd m i (some b)) r
theorem updM_eq : ∀ (us : Upds) (m : Mem), updM m us = appU m us
  | [], m => rfl
  | [(i, b)], m => rfl
  | (i, b) :: u :: r, m => by rw [updM, updM_eq (u :: r)]; rfl; simp

/-- the conditions that came up -/
def AllP : List Prop → Prop
  | [] => True
  | [p] => p
  | p :: r => p ∧ AllP r
theorem AllP_cons {p : Prop} {l : List Prop} : AllP (p :: l) ↔ p ∧ AllP l := by
  cases l with
  | nil => simp [AllP]
  | cons q r => rfl

structure Ran where
  ps : List Prop
  tm : Nat → D
  mem : Mem
  rest : List Oper

/-- the operations ahead of the next call of a function, the values written out -/
def runF (T : Nat → Option TI) (nt : Nat) (ops : Array Oper) : List Oper → List Prop → (Nat → D) → Mem → Option Ran
  | [], ps, tm, m => some ⟨ps, tm, m, []⟩
  | o :: r, ps, tm, m =>
    bif isGo o.op then some ⟨ps, tm, m, o :: r⟩ else
    match stepE T nt ops ⟨tm, m⟩ o with
    | some ⟨φ, d, us⟩ => fD d fun d => fU us fun us =>
      match o.dst, us with
      | some t, [] => runF T nt ops r (φ :: ps) (upd tm t d) m
      | some t, [(i, b)] => runF T nt ops r (φ :: ps) (upd tm t d) (upd m i (some b))
      | some t, us => runF T nt ops r (φ :: ps) (upd tm t d) (updM m us)
      | none, [(i, b)] => runF T nt ops r (φ :: ps) tm (upd m i (some b))
      | none, us => runF T nt ops r (φ :: ps) tm (updM m us)
    | none => none

section
variable {P : Program} {T : Nat → Option TI} {X : Ctx}
theorem runF_mem (hT : TOk P T) {nt : Nat} (hnt : X.nt = nt) {ops : Array Oper} : ∀ {l : List Oper} {ps : List Prop} {tm : Nat → D} {m : Mem} {q : Ran}, runF T nt ops l ps tm m = some q → (AllP q.ps → AllP ps) ∧ ∀ s'', AllP q.ps → Lex P X ops q.rest ⟨q.tm, q.mem⟩ s'' → Lex P X ops l ⟨tm, m⟩ s''
  | [], ps, tm, m, q, h => by cases h; exact ⟨id, fun s'' _ k => k⟩
  | o :: r, ps, tm, m, q, h => by
    rw [runF] at h
    cases hg : isGo o.op with
    | true => simp only [hg, cond_true, Option.some.injEq] at h; subst h; exact ⟨id, fun s'' _ k => k⟩
    | false =>
      simp only [hg, cond_false] at h
      split at h
      · rename_i φ d us he
        simp only [fD_eq, fU_eq] at h
        have hs : ∀ hφ : φ, OpT P X ops o ⟨tm, m⟩ (St.app ⟨tm, m⟩ o.dst d us) := fun hφ => step_sound hT (ef := ⟨φ, d, us⟩) (by rw [hnt]; exact he) hφ
        have key : runF T nt ops r (φ :: ps) (match o.dst with | some t => upd tm t d | none => tm) (appU m us) = some q := by
          split at h
          · rename_i t hd; rw [hd]; exact h
          · rename_i t i b hd; rw [hd]; exact h
          · rename_i t hd _ _; rw [hd]; rw [updM_eq] at h; exact h
          · rename_i i b hd; rw [hd]; exact h
          · rename_i hd _; rw [hd]; rw [updM_eq] at h; exact h
        obtain ⟨h1, h2⟩ := runF_mem hT hnt key
        exact ⟨fun ha => (AllP_cons.1 (h1 ha)).2, fun s'' ha k => .cons (hs (AllP_cons.1 (h1 ha)).1) (h2 s'' ha k)⟩
      · cases h

/-- operations, up to the next call of a function -/
theorem lex (hT : TOk P T) {nt : Nat} (hnt : X.nt = nt) {ops : Array Oper} {l : List Oper} {tm : Nat → D} {m : Mem} {ps : List Prop} {tm' : Nat → D} {m' : Mem} {rest : List Oper} {s'' : St} (h : runF T nt ops l [] tm m = some ⟨ps, tm', m', rest⟩) (hp : AllP ps) (k : Lex P X ops rest ⟨tm', m'⟩ s'') : Lex P X ops l ⟨tm, m⟩ s'' :=
  (runF_mem hT hnt h).2 s'' hp k
/-- a region without calls -/
theorem reg (hT : TOk P T) {nt : Nat} (hnt : X.nt = nt) {id : Nat} {ops : Array Oper} {tm : Nat → D} {m : Mem} {ps : List Prop} {tm' : Nat → D} {m' : Mem} {Q : Exit → St → Prop} (h : runF T nt ops ops.toList [] tm m = some ⟨ps, tm', m', []⟩) (hp : AllP ps) (k : Q .normal ⟨tm', m'⟩) : Tr P X (.region id ops false) ⟨tm, m⟩ Q :=
  tr_region (lex hT hnt h hp (.nil _)) k
end
end Go.Proofs.YtcdifgacoleckaaDoor.Ab
namespace Go.Proofs.YtcdifgacoleckaaDoor.Ab
open Go Go.RowKit
set_option linter.unusedSimpArgs false
set_option linter.unusedVariables false

def ids0 : D0 → List Nat
  | .ptr i _ _ => [i]
  | .rptr i _ _ _ => [i]
  | .own i _ => [i]
  | .bsl i _ _ _ _ => [i]
  | .hnd i _ => [i]
  | .clo _ cs => cs.map fun c => c.1
  | _ => []
def idsC : Cs → List Nat
  | .es _ => []
  | .ds xs => xs.flatMap ids0
def idsD : D → List Nat
  | .one x => ids0 x
  | .agg c => idsC c
  | .gd _ d => idsD d
  | _ => []

/-- two memories, alike at the blocks that d names -/
def Alk (m m' : Mem) (d : D) : Prop := ∀ i ∈ idsD d, m i = m' i

section
variable {T : Nat → Option TI} {m m' : Mem}
theorem alk_strip {d : D} (h : Alk m m' d) : Alk m m' d.strip := by
  cases d <;> exact h

theorem alk_ptn {d : D} (h : Alk m m' d) : Alk m m' d.ptn := by
  unfold D.ptn
  split
  · intro i hi; cases hi
  · exact h
theorem effConv_congr {s t : Nat} {x : D} (h : Alk m m' x) : effConv T m s t x = effConv T m' s t x := by
  unfold effConv
  split
  · rfl
  · rfl
  · split
    · rfl
    · rfl
    · rename_i id ver _ _; rw [h id (by simp [idsD, ids0])]
    · rename_i id ver _ _ _ _ _; rw [h id (by simp [idsD, ids0])]
    · rfl
  · rfl
theorem effLoad_congr {ti : TI} {x : D} (h : Alk m m' x) : effLoad ti m x = effLoad ti m' x := by
  unfold effLoad
  split
  · rfl
  · rename_i id ver off; rw [h id (by simp [idsD, ids0])]
  · rename_i id ver i j; rw [h id (by simp [idsD, ids0])]
  · rfl
theorem liveB_congr {x : D} (h : Alk m m' x) : liveB m x = liveB m' x := by
  unfold liveB
  split <;> first | rfl | (rename_i id _ _; rw [h id (by simp [idsD, ids0])]) | (rename_i id _ _ _; rw [h id (by simp [idsD, ids0])])
theorem effIndexA_congr {t : Nat} {x i : D} (h : Alk m m' x) : effIndexA T m t x i = effIndexA T m' t x i := by
  unfold effIndexA
  split
  · split
    · split
      · rfl
      · rename_i id ver _; rw [h id (by simp [idsD, ids0])]
      · rename_i id ver _ _ _ _; rw [h id (by simp [idsD, ids0])]
      · rfl
    · rfl
    · rfl
  · rfl
theorem effLen_congr {t : Nat} {x : D} (h : Alk m m' x) : effLen T m t x = effLen T m' t x := by
  unfold effLen
  split
  · split
    · rfl
    · rfl
    · rename_i id ver; rw [h id (by simp [idsD, ids0])]
    · rename_i id ver _ _ _; rw [h id (by simp [idsD, ids0])]
    · rfl
  · rfl
  · rfl
theorem effLookup_congr {t : Nat} {x i : D} (h : Alk m m' x) : effLookup T m t x i = effLookup T m' t x i := by
  unfold effLookup
  split
  · rename_i id ver _ _; rw [h id (by simp [idsD, ids0])]
  · rfl
theorem effQ_congr {op : Op} {ev : Ev} (h : ∀ x ∈ op.operands, Alk m m' (ev x)) : effQ T m op ev = effQ T m' op ev := by
  unfold effQ
  split <;> try rfl
  · exact effConv_congr (h _ (by simp [Op.operands]))
  · split
    · exact effLoad_congr (alk_ptn (h _ (by simp [Op.operands])))
    · rfl
  · rename_i x
    have hx := alk_ptn (h x (by simp [Op.operands]))
    split
    · rename_i he; rw [he] at hx; rw [liveB_congr hx]
    · rfl
    · rfl
  · rw [liveB_congr (alk_ptn (h _ (by simp [Op.operands])))]
  · rw [liveB_congr (alk_ptn (h _ (by simp [Op.operands]))), effIndexA_congr (alk_ptn (h _ (by simp [Op.operands])))]
  · exact effLookup_congr (h _ (by simp [Op.operands]))
  · rename_i args ts
    split
    · rename_i x t ha ht
      exact effLen_congr (h x (by simp only [Op.operands, Call.operands]; simp [← Array.mem_toList_iff, ha]))
    · rfl

theorem frz_congr {x : D0} (h : ∀ i ∈ ids0 x, m i = m' i) : frz m x = frz m' x := by
  cases x with
  | own id ver => unfold frz; simp only; rw [h id (by simp [ids0])]
  | bsl id ver off z n => unfold frz; simp only; rw [h id (by simp [ids0])]
  | ptr id ver off => unfold frz; simp only; rw [h id (by simp [ids0])]
  | _ => rfl
theorem frzL_congr : ∀ {xs : List D0}, (∀ i ∈ xs.flatMap ids0, m i = m' i) → frzL m xs = frzL m' xs
  | [], _ => rfl
  | x :: r, h => by
    rw [frzL, frzL, frz_congr (fun i hi => h i (by simp [hi])), frzL_congr (fun i hi => h i (by
      rw [List.flatMap_cons]; exact List.mem_append_right _ hi))]
theorem frzC_congr {c : Cs} (h : ∀ i ∈ idsC c, m i = m' i) : frzC m c = frzC m' c := by
  cases c with
  | es xs => rfl
  | ds xs => exact frzL_congr h
theorem idsC_cs {d : D} {c : Cs} (h : d.cs? = some c) : ∀ i ∈ idsC c, i ∈ idsD d := by
  unfold D.cs? at h
  split at h
  · cases h; intro i hi; cases hi
  · cases h; intro i hi; simpa [idsC, idsD] using hi
  · cases h; intro i hi; exact hi
  · cases h
theorem effElems_congr {sz : Nat} : ∀ {k : Nat} {ds : List (Nat × D)}, (∀ q ∈ ds, Alk m m' q.2) → effElems m sz k ds = effElems m' sz k ds
  | k, [], _ => rfl
  | k, (i, d) :: r, h => by
    rw [effElems, effElems, effElems_congr (k := k + 1) (ds := r) (fun q hq => h q (by simp [hq]))]
    cases hc : d.cs? with
    | none => rfl
    | some c =>
      have hf : frzC m c = frzC m' c := frzC_congr fun j hj => h (i, d) (by simp) j (idsC_cs hc j hj)
      simp only [hf]
theorem srcOf_congr {k : K} {sz : Nat} {d : D} (h : Alk m m' d) : srcOf m k sz d = srcOf m' k sz d := by
  unfold srcOf
  split <;> try rfl
  · rename_i id ver; rw [h id (by simp [idsD, ids0])]
  · rename_i id ver _ _ _; rw [h id (by simp [idsD, ids0])]
theorem nver_congr {id : Nat} (h : m id = m' id) : nver m id = nver m' id := by unfold nver; rw [h]
theorem effAppend_congr {id t tx : Nat} {x y : D} (hx : Alk m m' x) (hy : Alk m m' y) (hid : m id = m' id) : effAppend T m id t tx x y = effAppend T m' id t tx x y := by
  unfold effAppend
  split
  · rw [srcOf_congr hy, nver_congr hid]
    split
    · split
      · rfl
      · rename_i id' ver; rw [hx id' (by simp [idsD, ids0])]
      · rfl
    · rfl
  · rfl
theorem effStore_congr {ti : TI} {a x : D} (ha : Alk m m' a) (hx : Alk m m' x) : effStore ti m a x = effStore ti m' a x := by
  unfold effStore
  cases hc : x.cs? with
  | none => rfl
  | some c =>
    have hf := frzC_congr (m := m) (m' := m') (c := c) fun i hi => hx i (idsC_cs hc i hi)
    cases a with
    | one z => cases z with
      | ptr id ver off => simp only; rw [ha id (by simp [idsD, ids0])]
      | rptr id ver i j => simp only; rw [ha id (by simp [idsD, ids0]), hf]
      | _ => rfl
    | _ => rfl
theorem effBuildSl_congr {id t len : Nat} {ds : List (Nat × D)} (h : ∀ q ∈ ds, Alk m m' q.2) (hid : m id = m' id) : effBuildSl T m id t len ds = effBuildSl T m' id t len ds := by
  unfold effBuildSl
  simp only [effElems_congr h, nver_congr hid]
theorem effBytes_congr {id s d : Nat} {x : D} (hid : m id = m' id) : effBytes T m id s d x = effBytes T m' id s d x := by
  unfold effBytes
  simp only [nver_congr hid]
theorem effSliceO_congr {t : Nat} {x : D} {lo hi : Option D} (h : Alk m m' x) : effSliceO T m t x lo hi = effSliceO T m' t x lo hi := by
  unfold effSliceO
  cases x with
  | one z => cases z with
    | own id ver =>
      have e : truncO T m t id ver lo hi = truncO T m' t id ver lo hi := by
        unfold truncO
        rw [h id (by simp [idsD, ids0])]
      simp only
      rw [frz_congr (fun i hi => h i (by simpa [idsD] using hi)), e]
    | ptr id ver off => simp only; rw [h id (by simp [idsD, ids0])]
    | _ => rfl
  | _ => rfl
theorem zeroCs_ids (vs : List Value) : idsC (zeroCs vs) = [] := by
  unfold zeroCs
  cases vs.any isSliceV with
  | false => rfl
  | true =>
    simp only [cond_true, idsC, List.flatMap_map]
    refine List.flatMap_eq_nil_iff.2 fun v _ => ?_
    unfold zD
    split <;> rfl
theorem effCopy_congr {t tx : Nat} {x y : D} (hx : Alk m m' x) (hy : Alk m m' y) : effCopy T m t tx x y = effCopy T m' t tx x y := by
  unfold effCopy
  split
  · rename_i id ver off z n _ _
    rw [hx id (by simp [idsD, ids0]), srcOf_congr hy]
  · rfl
theorem effMake_congr {id t : Nat} {l c : D} (hid : m id = m' id) : effMake T m id t l c = effMake T m' id t l c := by
  have hz : ∀ vs : List Value, frzC m (zeroCs vs) = frzC m' (zeroCs vs) := fun vs => frzC_congr (fun i hi => by rw [zeroCs_ids] at hi; cases hi)
  unfold effMake
  simp only [nver_congr hid, hz]
theorem effNext_congr {x : D} (h : Alk m m' x) : effNext m x = effNext m' x := by
  unfold effNext
  split
  · rename_i id ver; rw [h id (by simp [idsD, ids0])]
  · rfl
theorem effMapPut_congr {t : Nat} {x i y : D} (h : Alk m m' x) : effMapPut T m t x i y = effMapPut T m' t x i y := by
  unfold effMapPut
  split
  · rename_i id ver _ _ _; rw [h id (by simp [idsD, ids0])]
  · rfl
theorem effM_congr {id : Nat} {op : Op} {ev : Ev} (h : ∀ x ∈ op.operands, Alk m m' (ev x)) (hid : m id = m' id) : effM T m id op ev = effM T m' id op ev := by
  unfold effM
  split <;> try rfl
  · rw [nver_congr hid]
  · rw [nver_congr hid]
  · rename_i t len ps
    exact effBuildSl_congr (fun q hq => by
      obtain ⟨x, hx, rfl⟩ := List.mem_map.1 hq
      exact h x.2 (by simp only [Op.operands]; simpa using ⟨x.1, by simpa using hx⟩)) hid
  · split
    · exact effStore_congr (h _ (by simp [Op.operands])) (h _ (by simp [Op.operands]))
    · rfl
  · rename_i args ts
    split
    · rename_i x y t tx ha ht
      exact effAppend_congr (h x (by simp only [Op.operands, Call.operands]; simp [← Array.mem_toList_iff, ha])) (h y (by simp only [Op.operands, Call.operands]; simp [← Array.mem_toList_iff, ha])) hid
    · rfl
  · rename_i args ts
    split
    · rename_i x y t tx ha ht
      exact effCopy_congr (h x (by simp only [Op.operands, Call.operands]; simp [← Array.mem_toList_iff, ha])) (h y (by simp only [Op.operands, Call.operands]; simp [← Array.mem_toList_iff, ha]))
    · rfl
  · exact effBytes_congr hid
  · exact effSliceO_congr (h _ (by simp [Op.operands]))
  · exact effMake_congr hid
  · unfold effRange; rw [nver_congr hid]
  · exact effNext_congr (h _ (by simp [Op.operands]))
  · rw [nver_congr hid]
  · exact effMapPut_congr (h _ (by simp [Op.operands]))
/-- the operands through which an operation looks at the memory: a move looks at none -/
def rdO : Op → List Operand
  | .move _ => []
  | op => op.operands.toList
theorem rdO_sub {op : Op} {x : Operand} (h : x ∈ rdO op) : x ∈ op.operands := by
  unfold rdO at h
  split at h
  · cases h
  · simpa using h
theorem rdO_call {op : Op} {c : Call} {x : Operand} (hc : op = .call c) (h : x ∈ op.operands) : x ∈ rdO op := by
  subst hc
  show x ∈ (Op.call c).operands.toList
  simpa using h
theorem eff_congr {id : Nat} {op : Op} {ev : Ev} (h : ∀ x ∈ rdO op, Alk m m' (ev x)) (hid : m id = m' id) : eff T m id op ev = eff T m' id op ev := by
  by_cases hm : ∃ x, op = .move x
  · obtain ⟨x, rfl⟩ := hm
    unfold eff effQ effM
    rfl
  · have h : ∀ x ∈ op.operands, Alk m m' (ev x) := fun x hx => h x (by
      unfold rdO
      split
      · exact absurd ⟨_, rfl⟩ hm
      · simpa using hx)
    unfold eff
    rw [effQ_congr h, effM_congr h hid]

/-- two states, alike where operation o looks -/
structure Same (ops : Array Oper) (o : Oper) (s s' : St) : Prop where
  tm : ∀ t ∈ o.looksAt ops, s.tm t = s'.tm t
  mem : ∀ x ∈ rdO o.op, Alk s.mem s'.mem (s.ev x)
  dst : s.mem (dstId o.dst) = s'.mem (dstId o.dst)
  glob : ∀ g, s.tm (1000000 + g) = s'.tm (1000000 + g)

theorem Same.ev {ops : Array Oper} {o : Oper} {s s' : St} (h : Same ops o s s') : ∀ x ∈ o.op.operands, s.ev x = s'.ev x := fun x hx => by
  cases x with
  | tmp t =>
    have := h.tm t (List.mem_append_left _ (List.mem_filterMap.2 ⟨.tmp t, by simpa using hx, rfl⟩))
    show (bif Nat.blt t 900000 then s.tm t else .any) = bif Nat.blt t 900000 then s'.tm t else .any
    rw [this]
  | global g => exact h.glob g
  | _ => rfl

theorem effEv_congr {m : Mem} {id : Nat} {op : Op} {ev ev' : Ev} (h : ∀ x ∈ op.operands, ev x = ev' x) : eff T m id op ev = eff T m id op ev' := by
  have hq : effQ T m op ev = effQ T m op ev' := by
    cases op <;> simp only [effQ] <;> simp only [Op.operands] at h
    all_goals (try rfl)
    case slice t x lo hi mx =>
      cases mx with
      | none => cases lo <;> cases hi <;> simp_all [effQ]
      | some _ => cases lo <;> cases hi <;> simp_all [effQ]
    case lookup t x i ok => cases ok <;> simp_all [effQ]
    case typeAssert x t a ok => cases ok <;> simp_all [effQ]
    case call c =>
      obtain ⟨cal, args, ts⟩ := c
      cases cal with
      | builtin b =>
        have ha : ∀ x ∈ args.toList, ev x = ev' x := fun x hx => h x (by simp only [Call.operands]; simpa using hx)
        cases b <;> simp only [effQ] <;> (try rfl) <;> (generalize args.toList = l at ha; generalize ts.toList = l2; clear h; rcases l with _ | ⟨x, _ | ⟨y, _ | ⟨z, l⟩⟩⟩ <;> rcases l2 with _ | ⟨t, _ | ⟨u, _ | ⟨v, l2⟩⟩⟩ <;> simp_all)
      | _ => rfl
    all_goals (simp_all; done)
  have hm : effM T m id op ev = effM T m id op ev' := by
    have pairs : ∀ ps : Array (Nat × Operand), (∀ q ∈ ps.toList, ev q.2 = ev' q.2) → (ps.toList.map fun q => (q.1, ev q.2)) = ps.toList.map fun q => (q.1, ev' q.2) := fun ps hp => List.map_congr_left fun q hq => by rw [hp q hq]
    cases op <;> simp only [effM] <;> simp only [Op.operands] at h
    all_goals (try rfl)
    case build t ps => rw [pairs ps fun q hq => h q.2 (by simpa using ⟨q.1, by simpa using hq⟩)]
    case buildSlice t n ps => rw [pairs ps fun q hq => h q.2 (by simpa using ⟨q.1, by simpa using hq⟩)]
    case slice t x lo hi mx =>
      cases mx with
      | none => cases lo <;> cases hi <;> simp_all [effM]
      | some _ => rfl
    case next x b => cases b <;> simp_all [effM]
    case makeMap t r => cases r <;> simp_all [effM]
    case call c =>
      obtain ⟨cal, args, ts⟩ := c
      cases cal with
      | builtin b =>
        have ha : ∀ x ∈ args.toList, ev x = ev' x := fun x hx => h x (by simp only [Call.operands]; simpa using hx)
        cases b <;> simp only [effM] <;> (try rfl) <;> (generalize args.toList = l at ha; generalize ts.toList = l2; clear h; rcases l with _ | ⟨x, _ | ⟨y, _ | ⟨z, l⟩⟩⟩ <;> rcases l2 with _ | ⟨t, _ | ⟨u, _ | ⟨v, l2⟩⟩⟩ <;> simp_all)
      | _ => rfl
    case makeFunc fn first caps =>
      cases fn with
      | func f =>
        have : caps.toList.map ev = caps.toList.map ev' := List.map_congr_left fun x hx => h x (by
          have := Array.mem_toList_iff.1 hx
          simp [this])
        have h1 : first.toList.map ev = first.toList.map ev' := List.map_congr_left fun x hx => h x (by
          have := Array.mem_toList_iff.1 hx
          simp [this])
        simp only [effM]
        rw [this, h1]
      | _ => rfl
    all_goals (simp_all; done)
  unfold eff
  rw [hq, hm]
end
end Go.Proofs.YtcdifgacoleckaaDoor.Ab
