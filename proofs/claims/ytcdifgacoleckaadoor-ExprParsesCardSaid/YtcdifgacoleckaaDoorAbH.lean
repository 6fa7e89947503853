/- Functions that are lent variables and rows of their caller's: they may write them. No condition. -/
import Derived.Test.YtcdifgacoleckaaDoorAbD
import Derived.Test.YtcdifgacoleckaaDoorAb25
namespace Go.Proofs.YtcdifgacoleckaaDoor.Ab
open Go Go.RowKit

/-! ### renaming of own blocks: id ↦ (new id, what is added to a version) -/
abbrev Rn := Nat → Nat × Nat
def D0.rn (ρ : Rn) : D0 → D0
  | .ptr i v o => .ptr (ρ i).1 (v + (ρ i).2) o
  | .rptr i v a b => .rptr (ρ i).1 (v + (ρ i).2) a b
  | .own i v => .own (ρ i).1 (v + (ρ i).2)
  | .bsl i v o z n => .bsl (ρ i).1 (v + (ρ i).2) o z n
  | .clo f cs => .clo f (cs.map fun c => ((ρ c.1).1, c.2.1 + (ρ c.1).2, c.2.2))
  | .hnd i v => .hnd (ρ i).1 (v + (ρ i).2)
  | x => x
def Cs.rn (ρ : Rn) : Cs → Cs
  | .es xs => .es xs
  | .ds xs => .ds (xs.map (D0.rn ρ))
def D.rn (ρ : Rn) : D → D
  | .any => .any
  | .one x => .one (x.rn ρ)
  | .agg c => .agg (c.rn ρ)
  | .tup xs => .tup (xs.map fun x => (x.1, x.2.rn ρ))
  | .gd q d => .gd q (d.rn ρ)
def Body.rn (ρ : Rn) : Body → Body
  | .box c => .box (c.rn ρ)
  | .row z xs => .row z xs
  | .raw o => .raw o
theorem Cs.rn_d0 (ρ : Rn) (c : Cs) : (c.rn ρ).d0 = c.d0.map (D0.rn ρ) := by
  cases c with
  | es xs => simp only [Cs.rn, Cs.d0, List.map_map]; rfl
  | ds xs => rfl
theorem Body.rn_cells (ρ : Rn) (b : Body) : (b.rn ρ).cells = b.cells.map (D0.rn ρ) := by
  cases b with
  | box c => exact Cs.rn_d0 ρ c
  | row z xs => simp only [Body.rn, Body.cells, List.map_map]; rfl
  | raw o => rfl
theorem Body.rn_shape (ρ : Rn) (b : Body) : (b.rn ρ).shape = b.shape := by
  cases b with
  | box c => simp [Body.rn, Body.shape, Cs.rn_d0]
  | row z xs => rfl
  | raw o => rfl
theorem Body.rn_ok {ρ : Rn} {b : Body} : (b.rn ρ).ok ↔ b.ok := by cases b <;> exact Iff.rfl
theorem Body.rn_okN {ρ : Rn} {b : Body} : (b.rn ρ).okN ↔ b.okN := by cases b <;> exact Iff.rfl
theorem Body.rn_obj (ρ : Rn) (b : Body) (cur : Array Value) (e : TypeId) (lo hi : Nat) : (b.rn ρ).obj cur e lo hi = b.obj cur e lo hi := by cases b <;> rfl

def RnOk (ρ : Rn) (dom : Nat → Prop) (p p' : Rho) : Prop :=
  ∀ i b, dom i → p.mem i = some b → ∃ b', p'.mem (ρ i).1 = some b' ∧ b'.ver = b.ver + (ρ i).2 ∧ b'.body.shape = b.body.shape ∧ p'.μ (ρ i).1 = p.μ i
def allI (_ : Nat) : Prop := True

section
variable {ρ : Rn} {p p' : Rho} {C C' : Nat → Nat → Value → Prop} {w : World}
theorem rn_live (h : RnOk ρ allI p p') {i v : Nat} {K : Nat → Prop} (hl : Live p i v K) : Live p' (ρ i).1 (v + (ρ i).2) K := by
  obtain ⟨b, h1, h2, h3⟩ := hl
  obtain ⟨b', e1, e2, e3, e4⟩ := h i b trivial h1
  refine ⟨b', e1, by omega, fun e => ?_⟩
  obtain ⟨g, hg, hk⟩ := h3 (by omega)
  exact ⟨g, by rw [e4]; exact hg, hk⟩
theorem rn_rep0 (hC : ∀ b o u, C b o u → C' b o u) (h : RnOk ρ allI p p') {x : D0} {v : Value} (hv : Rep0 p C w x v) : Rep0 p' C' w (x.rn ρ) v := by
  cases x with
  | e x => exact RepE.mono hC hv
  | nil => exact hv
  | ptr i v o => exact ⟨hv.1, rn_live h hv.2⟩
  | rptr i v a b =>
    obtain ⟨h0, blk, h1, h2, h3⟩ := hv
    obtain ⟨b', e1, e2, e3, e4⟩ := h _ _ trivial h1
    refine ⟨h0, b', e1, by omega, fun e => ?_⟩
    obtain ⟨g, g1, g2⟩ := h3 (by omega)
    exact ⟨g, by rw [e4]; exact g1, by rw [e3]; exact g2⟩
  | eptr cs =>
    obtain ⟨b, o, rfl, hc⟩ := hv
    refine ⟨b, o, rfl, fun j e he => ?_⟩
    obtain ⟨u, h1, h2⟩ := hc j e he
    exact ⟨u, hC _ _ _ h1, h2.mono hC⟩
  | own i v =>
    obtain ⟨h0, blk, h1, h2, h3⟩ := hv
    obtain ⟨b', e1, e2, e3, e4⟩ := h _ _ trivial h1
    refine ⟨h0, b', e1, by omega, fun e => ?_⟩
    obtain ⟨z, n, z1, z2, z3⟩ := h3 (by omega)
    refine ⟨z, n, by rw [e3]; exact z1, z2, ?_⟩
    rcases z3 with z3 | ⟨g, cap, g1, g2⟩
    · exact .inl z3
    · exact .inr ⟨g, cap, by rw [e4]; exact g1, g2⟩
  | clo f caps =>
    obtain ⟨vs, rfl, hl, hc⟩ := hv
    refine ⟨vs, rfl, by simpa using hl, fun i c u h1 h2 => ?_⟩
    simp only [List.getElem?_map, Option.map_eq_some_iff] at h1
    obtain ⟨c0, h1, rfl⟩ := h1
    exact rn_live h (hc i c0 u h1 h2)
  | bsl i v o z n =>
    obtain ⟨h0, blk, h1, h2, h3⟩ := hv
    obtain ⟨b', e1, e2, e3, e4⟩ := h _ _ trivial h1
    refine ⟨h0, b', e1, by omega, fun e => ?_⟩
    obtain ⟨z1, z2, g, cap, g1, g2⟩ := h3 (by omega)
    exact ⟨z1, by rw [e3]; exact z2, g, cap, by rw [e4]; exact g1, g2⟩
  | hnd i v => exact ⟨hv.1, rn_live h hv.2⟩
theorem rn_rep2 (hC : ∀ b o u, C b o u → C' b o u) (h : RnOk ρ allI p p') {c : Cs} {vs : List Value} (hv : Rep2 p C w c.d0 vs) : Rep2 p' C' w (c.rn ρ).d0 vs := by
  rw [Cs.rn_d0]
  refine ⟨by simpa using hv.1, fun i x u hx hu => ?_⟩
  simp only [List.getElem?_map, Option.map_eq_some_iff] at hx
  obtain ⟨x0, hx, rfl⟩ := hx
  exact rn_rep0 hC h (hv.2 i x0 u hx hu)
theorem rn_rep (hC : ∀ b o u, C b o u → C' b o u) (h : RnOk ρ allI p p') {d : D} {v : Value} (hv : RepD p C w d v) : RepD p' C' w (d.rn ρ) v := by
  induction d with
  | any => trivial
  | one x => exact rn_rep0 hC h hv
  | agg c => obtain ⟨vs, rfl, h1⟩ := hv; exact ⟨vs, rfl, rn_rep2 hC h h1⟩
  | tup xs =>
    obtain ⟨vs, rfl, hl, hx⟩ := hv
    refine ⟨vs, rfl, by simpa using hl, fun i x u h1 h2 => ?_⟩
    simp only [List.getElem?_map, Option.map_eq_some_iff] at h1
    obtain ⟨⟨b, c⟩, h1, rfl⟩ := h1
    have := hx i (b, c) u h1 h2
    cases b with
    | true => obtain ⟨us, rfl, h3⟩ := this; exact ⟨us, rfl, rn_rep2 hC h h3⟩
    | false => exact rn_rep2 (c := c) hC h this
  | gd q d ih => exact ⟨fun hq => ih (hv.1 hq), hv.2⟩

/-! ### the other way: what the renamed value reads as -/
def InvOk (ρ : Rn) (dom : Nat → Bool) (p p' : Rho) : Prop :=
  ∀ i, dom i = true → ∃ b b', p.mem i = some b ∧ p'.mem (ρ i).1 = some b' ∧ b'.ver = b.ver + (ρ i).2 ∧ b'.body.shape = b.body.shape ∧ p'.μ (ρ i).1 = p.μ i
theorem inv_live {dom : Nat → Bool} (h : InvOk ρ dom p p') {i v : Nat} {K : Nat → Prop} (hi : dom i = true) (hl : Live p' (ρ i).1 (v + (ρ i).2) K) : Live p i v K := by
  obtain ⟨b, b', e1, e2, e3, e4, e5⟩ := h i hi
  obtain ⟨b0, h1, h2, h3⟩ := hl
  rw [e2] at h1
  cases h1
  refine ⟨b, e1, by omega, fun e => ?_⟩
  obtain ⟨g, hg, hk⟩ := h3 (by omega)
  exact ⟨g, by rw [← e5]; exact hg, hk⟩
def domL (dom : Nat → Bool) : List Nat → Bool
  | [] => true
  | i :: r => dom i && domL dom r
theorem domL_ok {dom : Nat → Bool} : ∀ {l : List Nat}, domL dom l = true → ∀ i ∈ l, dom i = true
  | [], _, i, h => nomatch h
  | k :: l, hl, i, h => by
    rw [domL, Bool.and_eq_true] at hl
    rcases List.mem_cons.1 h with rfl | h
    · exact hl.1
    · exact domL_ok hl.2 i h
theorem inv_rep0 {dom : Nat → Bool} (hC : ∀ b o u, C' b o u → C b o u) (h : InvOk ρ dom p p') {x : D0} (hx : ∀ i ∈ ids0 x, dom i = true) {v : Value} (hv : Rep0 p' C' w (x.rn ρ) v) : Rep0 p C w x v := by
  cases x with
  | e x => exact RepE.mono hC hv
  | nil => exact hv
  | ptr i v o => exact ⟨hv.1, inv_live h (hx i (by simp [ids0])) hv.2⟩
  | rptr i v a b =>
    obtain ⟨b1, b', e1, e2, e3, e4, e5⟩ := h i (hx i (by simp [ids0]))
    obtain ⟨h0, blk, h1, h2, h3⟩ := hv
    rw [e2] at h1
    cases h1
    refine ⟨h0, b1, e1, by omega, fun e => ?_⟩
    obtain ⟨g, g1, g2⟩ := h3 (by omega)
    exact ⟨g, by rw [← e5]; exact g1, by rw [← e4]; exact g2⟩
  | eptr cs =>
    obtain ⟨b, o, rfl, hc⟩ := hv
    refine ⟨b, o, rfl, fun j e he => ?_⟩
    obtain ⟨u, h1, h2⟩ := hc j e he
    exact ⟨u, hC _ _ _ h1, h2.mono hC⟩
  | own i v =>
    obtain ⟨b1, b', e1, e2, e3, e4, e5⟩ := h i (hx i (by simp [ids0]))
    obtain ⟨h0, blk, h1, h2, h3⟩ := hv
    rw [e2] at h1
    cases h1
    refine ⟨h0, b1, e1, by omega, fun e => ?_⟩
    obtain ⟨z, n, z1, z2, z3⟩ := h3 (by omega)
    refine ⟨z, n, by rw [← e4]; exact z1, z2, ?_⟩
    rcases z3 with z3 | ⟨g, cap, g1, g2⟩
    · exact .inl z3
    · exact .inr ⟨g, cap, by rw [← e5]; exact g1, g2⟩
  | clo f caps =>
    obtain ⟨vs, rfl, hl, hc⟩ := hv
    refine ⟨vs, rfl, by simpa using hl, fun i c u h1 h2 => ?_⟩
    exact inv_live h (hx c.1 (by simp only [ids0]; exact List.mem_map_of_mem (List.mem_of_getElem? h1))) (hc i ((ρ c.1).1, c.2.1 + (ρ c.1).2, c.2.2) u (by simp [h1]) h2)
  | bsl i v o z n =>
    obtain ⟨b1, b', e1, e2, e3, e4, e5⟩ := h i (hx i (by simp [ids0]))
    obtain ⟨h0, blk, h1, h2, h3⟩ := hv
    rw [e2] at h1
    cases h1
    refine ⟨h0, b1, e1, by omega, fun e => ?_⟩
    obtain ⟨z1, z2, g, cap, g1, g2⟩ := h3 (by omega)
    exact ⟨z1, by rw [← e4]; exact z2, g, cap, by rw [← e5]; exact g1, g2⟩
  | hnd i v => exact ⟨hv.1, inv_live h (hx i (by simp [ids0])) hv.2⟩
theorem inv_rep2 {dom : Nat → Bool} (hC : ∀ b o u, C' b o u → C b o u) (h : InvOk ρ dom p p') {c : Cs} (hx : ∀ i ∈ idsC c, dom i = true) {vs : List Value} (hv : Rep2 p' C' w (c.rn ρ).d0 vs) : Rep2 p C w c.d0 vs := by
  rw [Cs.rn_d0] at hv
  refine ⟨by simpa using hv.1, fun i x u h1 h2 => ?_⟩
  refine inv_rep0 hC h (fun k hk => ?_) (hv.2 i (x.rn ρ) u (by simp [h1]) h2)
  cases c with
  | es xs =>
    simp only [Cs.d0, List.getElem?_map, Option.map_eq_some_iff] at h1
    obtain ⟨e, _, rfl⟩ := h1
    cases hk
  | ds xs => exact hx k (List.mem_flatMap.2 ⟨x, List.mem_of_getElem? h1, hk⟩)
def argOk : D → Bool
  | .one _ => true
  | .agg _ => true
  | _ => false
theorem inv_rep {dom : Nat → Bool} (hC : ∀ b o u, C' b o u → C b o u) (h : InvOk ρ dom p p') {d : D} (hok : argOk d = true) (hx : ∀ i ∈ idsD d, dom i = true) {v : Value} (hv : RepD p' C' w (d.rn ρ) v) : RepD p C w d v := by
  cases d with
  | one x => exact inv_rep0 hC h hx hv
  | agg c => obtain ⟨vs, rfl, h1⟩ := hv; exact ⟨vs, rfl, inv_rep2 hC h hx h1⟩
  | _ => cases hok
end

/-! ### what such a function is -/
def Blk.isBox (b : Blk) : Bool := match b.body with
  | .box _ => true
  | .row _ _ => false
  | .raw _ => false
/-- where a call with lent blocks begins -/
def XH (w : World) (I : Nat → Nat → Prop) (p : Rho) : Ctx := ⟨w, I, 1, by decide, fun g => ∃ id blk, p.mem id = some blk ∧ p.μ id = some g, fun _ => 0, []⟩
def RepAsP (p : Rho) (C : Nat → Nat → Value → Prop) (w : World) (args : List D) (vs : List Value) : Prop :=
  args.length = vs.length ∧ ∀ (i : Nat) d v, args[i]? = some d → vs[i]? = some v → RepD p C w d v
/-- function f, lent the blocks ms, given args, answers r and leaves the blocks as ms' says -/
def FnH (P : Program) (f : Nat) (gs : List (Nat × List E)) (ms : List (Nat × Blk)) (args : List D) (r : D) (ms' : List (Nat × Blk)) : Prop :=
  FnOk P f ∧ ∀ (w : World) (vs : Array Value) (I : Nat → Nat → Prop) (μ : Nat → Option Nat), RM (XH w I ⟨lookM ms, μ⟩) ⟨lookM ms, μ⟩ w →
    (∀ x ∈ gs, RepD p0 (CW (XH w I ⟨lookM ms, μ⟩) ⟨lookM ms, μ⟩ w) w (.one (.eptr x.2)) (.pointer (some ⟨x.1, 0, none⟩))) →
    RepAsP ⟨lookM ms, μ⟩ (CW (XH w I ⟨lookM ms, μ⟩) ⟨lookM ms, μ⟩ w) w args vs.toList →
    Calls P f vs w fun e w' => ∃ v, e = .returned v ∧ ∃ μ' : Nat → Option Nat, RM (XH w I ⟨lookM ms, μ⟩) ⟨lookM ms', μ'⟩ w' ∧ (∀ id b, lookM ms id = some b → b.isBox = true → μ' id = μ id) ∧
      RepD ⟨lookM ms', μ'⟩ (CW (XH w I ⟨lookM ms, μ⟩) ⟨lookM ms', μ'⟩ w') w' r v

/-- slots that say where the lent variables stand -/
def getP : List (Nat × Blk) → Nat → D
  | [], _ => .any
  | (i, b) :: r, t => bif Nat.beq t i then (bif b.isBox then .one (.ptr i 0 0) else .any) else getP r t
def St.startH (gs : List (Nat × List E)) (ms : List (Nat × Blk)) (args : List D) : St :=
  ⟨fun t => bif Nat.ble 1000000 t then getG gs (t - 1000000) else bif Nat.ble 900000 t then getP ms t else getArg args t, lookM ms⟩
def pins : List (Nat × Blk) → List (Nat × D)
  | [] => []
  | (i, b) :: r => bif b.isBox then (i, .one (.ptr i 0 0)) :: pins r else pins r
def okIn1 (b : Blk) : Bool := Nat.beq b.ver 0 && match b.body with
  | .box c => Nat.blt 0 c.len
  | .row _ _ => true
  | .raw _ => false
def okIn : List (Nat × Blk) → Bool
  | [] => true
  | (i, b) :: r => Nat.ble 900000 i && Nat.blt i 1000000 && okIn1 b && okIn r
def outBox (o : Option Blk) : Bool := match o with
  | some b => Nat.beq b.ver 0 && b.isBox
  | none => false
def okOut (ms' : List (Nat × Blk)) : List (Nat × Blk) → Bool
  | [] => true
  | (i, b) :: r => (bif b.isBox then outBox (lookM ms' i) else true) && okOut ms' r
theorem getP_cases : ∀ {ms : List (Nat × Blk)} {t : Nat}, getP ms t = .any ∨ ∃ b, lookM ms t = some b ∧ b.isBox = true ∧ getP ms t = .one (.ptr t 0 0)
  | [], t => .inl rfl
  | (i, b) :: r, t => by
    rw [getP, lookM]
    cases h : Nat.beq t i with
    | false => exact getP_cases (ms := r)
    | true =>
      obtain rfl := Nat.eq_of_beq_eq_true h
      cases hb : b.isBox with
      | false => exact .inl rfl
      | true => exact .inr ⟨b, rfl, hb, rfl⟩
theorem okIn_get : ∀ {ms : List (Nat × Blk)} {t : Nat} {b : Blk}, okIn ms = true → lookM ms t = some b → 900000 ≤ t ∧ t < 1000000 ∧ okIn1 b = true
  | [], t, b, _, h => nomatch h
  | (i, c) :: r, t, b, ho, h => by
    rw [okIn, Bool.and_eq_true, Bool.and_eq_true, Bool.and_eq_true] at ho
    rw [lookM] at h
    cases hb : Nat.beq t i with
    | false => rw [hb] at h; exact okIn_get ho.2 h
    | true =>
      rw [hb] at h
      cases h
      obtain rfl := Nat.eq_of_beq_eq_true hb
      exact ⟨Nat.le_of_ble_eq_true ho.1.1.1, Nat.blt_eq.mp ho.1.1.2, ho.1.2⟩
theorem okIn1_len {b : Blk} (h : okIn1 b = true) (hb : b.isBox = true) : b.ver = 0 ∧ b.cells ≠ [] := by
  obtain ⟨v, bd, pub⟩ := b
  cases bd with
  | row z xs => cases hb
  | raw o => cases hb
  | box c =>
    rw [okIn1, Bool.and_eq_true] at h
    refine ⟨Nat.eq_of_beq_eq_true h.1, fun e => ?_⟩
    have e : c.d0 = [] := e
    have h2 : 0 < c.len := Nat.blt_eq.mp h.2
    rw [← Cs.len_eq, e] at h2
    exact Nat.lt_irrefl _ h2
theorem okOut_get {ms' : List (Nat × Blk)} : ∀ {ms : List (Nat × Blk)} {t : Nat} {b : Blk}, okOut ms' ms = true → lookM ms t = some b → b.isBox = true → ∃ b', lookM ms' t = some b' ∧ b'.ver = 0 ∧ b'.isBox = true
  | [], t, b, _, h, _ => nomatch h
  | (i, c) :: r, t, b, ho, h, hx => by
    rw [okOut, Bool.and_eq_true] at ho
    rw [lookM] at h
    cases hb : Nat.beq t i with
    | false => rw [hb] at h; exact okOut_get ho.2 h hx
    | true =>
      rw [hb] at h
      cases h
      obtain rfl := Nat.eq_of_beq_eq_true hb
      have h1 := ho.1
      rw [hx, cond_true] at h1
      unfold outBox at h1
      split at h1
      · rename_i b' hb'
        rw [Bool.and_eq_true] at h1
        exact ⟨b', hb', Nat.eq_of_beq_eq_true h1.1, h1.2⟩
      · cases h1
theorem pins_get : ∀ {ms : List (Nat × Blk)} {t : Nat} {b : Blk}, lookM ms t = some b → b.isBox = true → lookT (pins ms) t = .one (.ptr t 0 0)
  | [], t, b, h, _ => nomatch h
  | (i, c) :: r, t, b, h, hx => by
    rw [lookM] at h
    cases hb : Nat.beq t i with
    | true =>
      rw [hb] at h
      cases h
      obtain rfl := Nat.eq_of_beq_eq_true hb
      rw [pins, hx, cond_true, lookT, hb]
      rfl
    | false =>
      rw [hb] at h
      have ih := pins_get (ms := r) h hx
      rw [pins]
      cases c.isBox with
      | false => exact ih
      | true => rw [cond_true, lookT, hb]; exact ih
def EndsH (T : Nat → Option TI) (rs : List ResultVar) (r : D) (ms ms' : List (Nat × Blk)) (e : Exit) (s : St) : Prop :=
  (e = .normal ∨ e = .ret) ∧ ∃ φ ds d, (bif rs.all resOk then resL T s rs else none) = some (φ, ds) ∧ φ ∧ joinO ds = some d ∧ ∀ X, Le X ⟨fun t => bif Nat.beq t 0 then d else bif Nat.ble 900000 t then s.tm t else .any, s.mem⟩ (St.of ((0, r) :: pins ms) ms')

section
variable {P : Program} {T : Nat → Option TI} {X : Ctx}
theorem fn_introH (hT : TOk P T) {f : Nat} {fn : Func} {c : Code} (hf : P.funcs[f]? = some fn) (hb : fn.body = some c) (hname : (fn.name == "runtime.NumGoroutine") = false) {gs : List (Nat × List E)} {args : List D} {r : D} {ms ms' : List (Nat × Blk)} (hn : args.length ≤ fn.ntmps)
    (hin : okIn ms = true) (hout : okOut ms' ms = true) (h : ∀ X : Ctx, X.nt = fn.ntmps → Tr P X c (St.startH gs ms args) (EndsH T fn.results.toList r ms ms')) (hbig : Nat.ble fn.ntmps 900000 = true := by rfl) (hlt : Nat.ble 1048576 f = false := by rfl) : FnH P f gs ms args r ms' := by
  refine ⟨⟨fn, c, hf, hb, Bool.or_eq_false_iff.2 ⟨hname, hlt⟩⟩, fun w vs I μ hM0 hgs hargs => ?_⟩
  have hlen : args.length = vs.size := by simpa using hargs.1
  let X : Ctx := ⟨w, I, fn.ntmps, Nat.le_of_ble_eq_true hbig, (XH w I ⟨lookM ms, μ⟩).ex, fun t => (μ t).getD 0, []⟩
  have hbig' := Nat.le_of_ble_eq_true hbig
  have hsl : ∀ t, 900000 ≤ t → t < 1000000 → ∀ tmps : Array Value, slotV X.xg tmps t = .pointer (some ⟨(μ t).getD 0, 0, none⟩) := fun t h1 h2 tmps => by
    unfold slotV
    have e1 : Nat.ble 1000000 t = false := by
      cases hb : Nat.ble 1000000 t with
      | false => rfl
      | true => have := Nat.le_of_ble_eq_true hb; omega
    rw [e1, Nat.ble_eq_true_of_le h1]
    rfl
  have hbox : ∀ t b, lookM ms t = some b → b.isBox = true → ∃ g, μ t = some g := fun t b h1 h2 => by
    obtain ⟨_, _, k3⟩ := okIn_get hin h1
    have h3 := hM0.blk t b h1
    cases hg : μ t with
    | some g => exact ⟨g, rfl⟩
    | none =>
      simp only [BlkOk, hg] at h3
      exact absurd h3.1 (okIn1_len k3 h2).2
  refine calls_of_wp hf hb (wp_mono (h X rfl _ w ⟨μ, ⟨hM0.bel, hM0.blk⟩, by show (vs ++ Array.replicate (fn.ntmps - vs.size) undef).size = fn.ntmps; simp; omega, rfl, fun t => ?_⟩) fun e a w' ⟨s', hE, hR⟩ => ?_)
  · show RepD _ _ w (bif Nat.ble 1000000 t then getG gs (t - 1000000) else bif Nat.ble 900000 t then getP ms t else getArg args t) _
    cases hbt : Nat.ble 1000000 t with
    | true =>
      have e : slotV X.xg (vs ++ Array.replicate (fn.ntmps - vs.size) undef) t = .pointer (some ⟨t - 1000000, 0, none⟩) := by
        unfold slotV
        rw [hbt]
        rfl
      rw [e, cond_true]
      exact (getG_rep (C := CW X ⟨lookM ms, μ⟩ w) hgs _).kept (p0_kept fun b o u h => h)
    | false =>
    rw [cond_false]
    have hlt : t < 1000000 := by
      rcases Nat.lt_or_ge t 1000000 with h | h
      · exact h
      · rw [Nat.ble_eq_true_of_le h] at hbt; cases hbt
    cases hb9 : Nat.ble 900000 t with
    | true =>
      have hle := Nat.le_of_ble_eq_true hb9
      rw [cond_true, hsl t hle hlt]
      rcases getP_cases (ms := ms) (t := t) with h1 | ⟨b, h1, h2, h3⟩
      · rw [h1]; trivial
      · rw [h3]
        obtain ⟨g, hg⟩ := hbox t b h1 h2
        exact ⟨rfl, b, h1, Nat.zero_le _, fun _ => ⟨g, hg, by rw [hg]; rfl⟩⟩
    | false =>
    rw [cond_false, getArg_get]
    cases hd : args[t]? with
    | none => trivial
    | some d =>
      have ht : t < vs.size := by rw [← hlen]; exact (List.getElem?_eq_some_iff.1 hd).1
      have hv : slotV X.xg (vs ++ Array.replicate (fn.ntmps - vs.size) undef) t = vs[t] := by
        rw [slotV_lt (by omega), Array.getD_eq_getD_getElem?, Array.getElem?_append_left ht, Array.getElem?_eq_getElem ht]
        rfl
      simp only [Option.getD_some]
      rw [hv]
      exact hargs.2 t d vs[t] hd (by simp [ht])
  · obtain ⟨hend, φ, ds, d, h1, hφ, hj, hle⟩ := hE
    obtain ⟨μ1, hM, hsz, hdf, hr⟩ := hR
    cases hro : fn.results.toList.all resOk with
    | false => rw [hro] at h1; cases h1
    | true =>
    rw [hro] at h1
    obtain ⟨us', k1, k2, k3⟩ := resL_run hT hM hr (fun x hx => List.all_eq_true.1 hro x hx) h1 hφ
    have hd := joinO_rep ⟨k2, k3⟩ hj
    have hrun : (results fn a.tmps).run P w' = .ok (if h : us'.toArray.size = 1 then us'.toArray[0] else .tuple us'.toArray) w' := by
      have he : results fn a.tmps = (do let vs ← fn.results.mapM (resF a.tmps); pure (if h : vs.size = 1 then vs[0] else .tuple vs) : Sem Value) := rfl
      rw [he, Sem.run_bind, Array.mapM_eq_mapM_toList, Sem.run_map, k1]
      rfl
    generalize (if h : us'.toArray.size = 1 then us'.toArray[0] else .tuple us'.toArray) = v at hd hrun
    obtain ⟨μ', hM', _, _, hr'⟩ := hle ⟨w, I, 1, by decide, (XH w I ⟨lookM ms, μ⟩).ex, X.xg, []⟩ { a with tmps := #[v] } w' ⟨μ1, ⟨hM.bel, hM.blk⟩, rfl, hdf, fun t => by
      cases ht : Nat.beq t 0 with
      | true =>
        obtain rfl := Nat.eq_of_beq_eq_true ht
        exact hd
      | false =>
        show RepD _ _ _ (bif Nat.beq t 0 then d else bif Nat.ble 900000 t then s'.tm t else .any) _
        rw [ht, cond_false]
        cases h9 : Nat.ble 900000 t with
        | false => trivial
        | true =>
          have e : slotV X.xg #[v] t = slotV X.xg a.tmps t := by
            unfold slotV
            cases Nat.ble 1000000 t with
            | true => rfl
            | false => rw [h9]; rfl
          rw [cond_true]
          show RepD _ _ _ _ (slotV X.xg #[v] t)
          rw [e]
          exact hr t⟩
    have hfin : bodyPost P fn (fun e w'' => ∃ v, e = .returned v ∧ ∃ μ' : Nat → Option Nat, RM (XH w I ⟨lookM ms, μ⟩) ⟨lookM ms', μ'⟩ w'' ∧ (∀ id b, lookM ms id = some b → b.isBox = true → μ' id = μ id) ∧
      RepD ⟨lookM ms', μ'⟩ (CW (XH w I ⟨lookM ms, μ⟩) ⟨lookM ms', μ'⟩ w'') w'' r v) .normal a w' := by
      refine ⟨hdf, _, hrun, v, rfl, μ', ⟨hM'.bel, hM'.blk⟩, fun id b h1 h2 => ?_, hr' 0⟩
      obtain ⟨q1, q2, q3⟩ := okIn_get hin h1
      obtain ⟨g, hg⟩ := hbox id b h1 h2
      obtain ⟨b', e1, e2, e3⟩ := okOut_get hout h1 h2
      have h3 := hr' id
      rw [show (St.of ((0, r) :: pins ms) ms').tm id = lookT (pins ms) id by
        show lookT ((0, r) :: pins ms) id = _
        rw [lookT]
        cases hz : Nat.beq id 0 with
        | false => rfl
        | true => have := Nat.eq_of_beq_eq_true hz; omega, pins_get h1 h2] at h3
      obtain ⟨_, blk, f1, f2, f3⟩ := h3
      have f1 : lookM ms' id = some blk := f1
      rw [e1] at f1
      cases f1
      obtain ⟨g', g1, g2⟩ := f3 e2.symm
      have g2 : slotV X.xg #[v] id = .pointer (some ⟨g', 0, none⟩) := g2
      rw [hsl id q1 q2, hg] at g2
      simp only [Value.pointer.injEq, Option.some.injEq, Addr.mk.injEq, Option.getD_some, and_true] at g2
      rw [hg, g2]
      exact g1
    rcases hend with rfl | rfl
    · exact hfin
    · exact hfin
end
end Go.Proofs.YtcdifgacoleckaaDoor.Ab
