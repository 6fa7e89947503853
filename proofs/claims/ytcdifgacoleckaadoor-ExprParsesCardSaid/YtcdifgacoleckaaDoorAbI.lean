/- A call that lends variables and rows of its own; an own row told under another number. No condition. -/
import Derived.Test.YtcdifgacoleckaaDoorAbZ
namespace Go.Proofs.YtcdifgacoleckaaDoor.Ab
open Go Go.RowKit

/-! ### lists of pairs -/
def lkN : List (Nat × Nat) → Nat → Option Nat
  | [], _ => none
  | y :: r, t => bif Nat.beq t y.1 then some y.2 else lkN r t
def swL : List (Nat × Nat) → List (Nat × Nat)
  | [] => []
  | y :: r => (y.2, y.1) :: swL r
def ndK : List (Nat × Nat) → Bool
  | [] => true
  | y :: r => (match lkN r y.1 with | some _ => false | none => true) && ndK r
theorem lkN_mem : ∀ {l : List (Nat × Nat)} {t i : Nat}, lkN l t = some i → (t, i) ∈ l
  | [], t, i, h => nomatch h
  | y :: r, t, i, h => by
    rw [lkN] at h
    cases hb : Nat.beq t y.1 with
    | true =>
      rw [hb] at h
      cases h
      obtain rfl := Nat.eq_of_beq_eq_true hb
      exact List.mem_cons_self ..
    | false => rw [hb] at h; exact List.mem_cons_of_mem _ (lkN_mem h)
theorem lkN_some : ∀ {l : List (Nat × Nat)} {t i : Nat}, (t, i) ∈ l → ∃ k, lkN l t = some k
  | y :: r, t, i, h => by
    rw [lkN]
    cases hb : Nat.beq t y.1 with
    | true => exact ⟨_, rfl⟩
    | false =>
      rcases List.mem_cons.1 h with rfl | h
      · rw [Nat.beq_refl] at hb; cases hb
      · exact lkN_some h
theorem mem_lkN : ∀ {l : List (Nat × Nat)} {t i : Nat}, ndK l = true → (t, i) ∈ l → lkN l t = some i
  | y :: r, t, i, hn, h => by
    rw [ndK, Bool.and_eq_true] at hn
    rw [lkN]
    rcases List.mem_cons.1 h with rfl | h
    · rw [Nat.beq_refl]; rfl
    · cases hb : Nat.beq t y.1 with
      | false => exact mem_lkN hn.2 h
      | true =>
        obtain rfl := Nat.eq_of_beq_eq_true hb
        obtain ⟨k, hk⟩ := lkN_some h
        have h1 := hn.1
        rw [hk] at h1
        cases h1
theorem sw_mem : ∀ {l : List (Nat × Nat)} {t i : Nat}, (t, i) ∈ l ↔ (i, t) ∈ swL l
  | [], t, i => ⟨(nomatch ·), (nomatch ·)⟩
  | y :: r, t, i => by
    rw [swL, List.mem_cons, List.mem_cons, sw_mem (l := r)]
    constructor
    · rintro (rfl | h)
      · exact .inl rfl
      · exact .inr h
    · rintro (h | h)
      · left; cases h; rfl
      · exact .inr h
theorem lookM_mem : ∀ {l : List (Nat × Blk)} {t : Nat} {b : Blk}, lookM l t = some b → (t, b) ∈ l
  | [], t, b, h => nomatch h
  | y :: r, t, b, h => by
    obtain ⟨k, c⟩ := y
    rw [lookM] at h
    cases hb : Nat.beq t k with
    | true =>
      rw [hb] at h
      cases h
      obtain rfl := Nat.eq_of_beq_eq_true hb
      exact List.mem_cons_self ..
    | false => rw [hb] at h; exact List.mem_cons_of_mem _ (lookM_mem h)
def isS {α : Type} : Option α → Bool
  | some _ => true
  | none => false
theorem isS_some {α : Type} {x : Option α} (h : isS x = true) : ∃ y, x = some y := by
  cases x with
  | some y => exact ⟨y, rfl⟩
  | none => cases h

/-! ### what is asked of the numbers -/
def verOf (m : Mem) (i : Nat) : Nat := match m i with | some b => b.ver | none => 0
def rnIn (m : Mem) (LK : List (Nat × Nat)) : Rn := fun c => match lkN LK c with | some i => (i, verOf m i) | none => (c, 0)
def rnOut (m : Mem) (L A : List (Nat × Nat)) : Rn := fun c => match lkN L c with
  | some i => (i, verOf m i)
  | none => match lkN A c with
    | some i => (i, nv m i)
    | none => (c, 0)
def Blk.out (ρ : Rn) (k : Nat) (b : Blk) : Blk := ⟨b.ver + k, b.body.rn ρ, b.pub⟩
def memH (m : Mem) (ms' : List (Nat × Blk)) (L K A : List (Nat × Nat)) : Mem := fun id => match lkN (swL L) id with
  | some c => (lookM ms' c).map (Blk.out (rnOut m L A) (verOf m id))
  | none => match lkN (swL A) id with
    | some c => (lookM ms' c).map (Blk.out (rnOut m L A) (nv m id))
    | none => match lkN (swL K) id with
      | some _ => some ⟨nv m id, .row 1 [], 0⟩
      | none => m id
def idsB : Body → List Nat
  | .box c => idsC c
  | .row _ _ => []
  | .raw _ => []
def okIds (ms ms' : List (Nat × Blk)) (L K A : List (Nat × Nat)) : Bool :=
  ms.all (fun x => Nat.beq x.2.ver 0 && Nat.beq x.2.pub 0 && (bif x.2.isBox then isS (lkN L x.1) else isS (lkN K x.1)) && domL (fun c => isS (lookM ms c)) (idsB x.2.body)) &&
  (L.all (fun y => match lookM ms y.1, lookM ms' y.1 with | some b, some b' => b.isBox && b'.isBox && Nat.beq b'.ver 0 | _, _ => false) &&
  (ms'.all (fun x => isS (lkN L x.1) || isS (lkN A x.1)) &&
  (A.all (fun y => !isS (lkN L y.1) && !isS (lkN (swL L) y.2) && isS (lookM ms' y.1)) &&
  (ndK (L ++ K) && ndK (swL (L ++ K)) && ndK L && ndK (swL L) && ndK A && ndK (swL A)))))
def InOk (m : Mem) (ms : List (Nat × Blk)) (ρ : Rn) : List (Nat × Nat) → Prop
  | [] => True
  | y :: r => m y.2 = (lookM ms y.1).map (Blk.out ρ (verOf m y.2)) ∧ InOk m ms ρ r
def ShOk (ms ms' : List (Nat × Blk)) : List (Nat × Nat) → Prop
  | [] => True
  | y :: r => ((lookM ms' y.1).map fun b => b.body.shape) = ((lookM ms y.1).map fun b => b.body.shape) ∧ ShOk ms ms' r
theorem inOk_get {m : Mem} {ms : List (Nat × Blk)} {ρ : Rn} : ∀ {l : List (Nat × Nat)} {y : Nat × Nat}, InOk m ms ρ l → y ∈ l → m y.2 = (lookM ms y.1).map (Blk.out ρ (verOf m y.2))
  | z :: r, y, h, hm => by
    rcases List.mem_cons.1 hm with rfl | hm
    · exact h.1
    · exact inOk_get h.2 hm
theorem shOk_get {ms ms' : List (Nat × Blk)} : ∀ {l : List (Nat × Nat)} {y : Nat × Nat}, ShOk ms ms' l → y ∈ l → ((lookM ms' y.1).map fun b => b.body.shape) = ((lookM ms y.1).map fun b => b.body.shape)
  | z :: r, y, h, hm => by
    rcases List.mem_cons.1 hm with rfl | hm
    · exact h.1
    · exact shOk_get h.2 hm

section
variable {P : Program} {X : Ctx}
/-- what is lent, as the one that is called finds it -/
theorem RM.lend {M : Mem} {μ : Nat → Option Nat} {w : World} {ms ms' : List (Nat × Blk)} {L K A : List (Nat × Nat)} (h1 : RM X ⟨M, μ⟩ w) (hids : okIds ms ms' L K A = true) (hin : InOk M ms (rnIn M (L ++ K)) (L ++ K)) :
    let I : Nat → Nat → Prop := fun b o => (¬ X.own b → X.I b o) ∧ (X.own b → ∀ id blk, M id = some blk → μ id = some b → o < blk.pub)
    let μc : Nat → Option Nat := fun c => match lkN (L ++ K) c with | some i => μ i | none => none
    let Xc := XH w I ⟨lookM ms, μc⟩
    (∀ c b, lookM ms c = some b → ∃ i, lkN (L ++ K) c = some i ∧ M i = some (b.out (rnIn M (L ++ K)) (verOf M i)) ∧ b.ver = 0 ∧ b.pub = 0) ∧
    (∀ b o u, CW X ⟨M, μ⟩ w b o u → CW Xc ⟨lookM ms, μc⟩ w b o u) ∧ RM Xc ⟨lookM ms, μc⟩ w ∧ InvOk (rnIn M (L ++ K)) (fun c => isS (lookM ms c)) ⟨lookM ms, μc⟩ ⟨M, μ⟩ := by
  intro I μc Xc
  unfold okIds at hids
  simp only [Bool.and_eq_true] at hids
  obtain ⟨q1, q2, q3, q4, ⟨⟨⟨⟨n1, n2⟩, n3⟩, n4⟩, n5⟩, n6⟩ := hids
  have hF : ∀ c b, lookM ms c = some b → ∃ i, lkN (L ++ K) c = some i ∧ M i = some (b.out (rnIn M (L ++ K)) (verOf M i)) ∧ b.ver = 0 ∧ b.pub = 0 := fun c b hb => by
    have h := List.all_eq_true.1 q1 (c, b) (lookM_mem hb)
    simp only [Bool.and_eq_true] at h
    obtain ⟨⟨⟨e1, e2⟩, e3⟩, e4⟩ := h
    have : ∃ i, (c, i) ∈ L ++ K := by
      cases hx : b.isBox with
      | true =>
        rw [hx] at e3
        obtain ⟨i, hi⟩ := isS_some e3
        exact ⟨i, List.mem_append_left _ (lkN_mem hi)⟩
      | false =>
        rw [hx] at e3
        obtain ⟨i, hi⟩ := isS_some e3
        exact ⟨i, List.mem_append_right _ (lkN_mem hi)⟩
    obtain ⟨i, hi⟩ := this
    have h2 := inOk_get hin hi
    have h2 : M i = (lookM ms c).map (Blk.out (rnIn M (L ++ K)) (verOf M i)) := h2
    rw [hb] at h2
    exact ⟨i, mem_lkN n1 hi, h2, Nat.eq_of_beq_eq_true e1, Nat.eq_of_beq_eq_true e2⟩
  have hμ : ∀ {c b i}, lookM ms c = some b → lkN (L ++ K) c = some i → μc c = μ i := fun {c b i} _ hi => by
    show (match lkN (L ++ K) c with | some i => μ i | none => none) = _
    rw [hi]
  have hρ : ∀ {c i}, lkN (L ++ K) c = some i → rnIn M (L ++ K) c = (i, verOf M i) := fun {c i} hi => by
    unfold rnIn
    rw [hi]
  have hInv : InvOk (rnIn M (L ++ K)) (fun c => isS (lookM ms c)) ⟨lookM ms, μc⟩ ⟨M, μ⟩ := fun c hc => by
    obtain ⟨b, hb⟩ := isS_some hc
    obtain ⟨i, k1, k2, k3, k4⟩ := hF c b hb
    rw [hρ k1]
    refine ⟨b, _, hb, k2, rfl, Body.rn_shape _ _, (hμ hb k1).symm⟩
  have hown : ∀ b, Xc.ex b → X.own b := fun b ⟨c, blk, e1, e2⟩ => by
    obtain ⟨i, k1, k2, k3, k4⟩ := hF c blk e1
    have e2 : μc c = some b := e2
    rw [hμ e1 k1] at e2
    have := h1.blk i _ k2
    simp only [BlkOk, e2] at this
    exact this.2.1
  have hC : ∀ b o u, CW X ⟨M, μ⟩ w b o u → CW Xc ⟨lookM ms, μc⟩ w b o u := fun b o u ⟨k1, k2, k3⟩ => by
    refine ⟨k1, fun _ => ⟨k2, k3⟩, fun hx c blk e1 e2 => ?_⟩
    have e2 : μc c = some b := e2
    obtain ⟨i, f1, f2, f3, f4⟩ := hF c blk e1
    rw [hμ e1 f1] at e2
    have := k3 (hx.elim (fun q => .inl (Nat.le_trans h1.bel.size q)) (hown b)) i _ f2 e2
    exact this
  refine ⟨hF, hC, ⟨Bel.refl Xc, fun c blk hb => ?_⟩, hInv⟩
  have hb : lookM ms c = some blk := hb
  obtain ⟨i, k1, k2, k3, k4⟩ := hF c blk hb
  have h := h1.blk i _ k2
  have hcl : (blk.out (rnIn M (L ++ K)) (verOf M i)).cells = blk.cells.map (D0.rn (rnIn M (L ++ K))) := Body.rn_cells _ _
  unfold BlkOk at h ⊢
  show match μc c with | none => _ | some g => _
  rw [hμ hb k1]
  cases hg : μ i with
  | none =>
    simp only [hg] at h ⊢
    obtain ⟨g0, g1, g2⟩ := h
    rw [hcl] at g0
    exact ⟨by simpa using g0, k4, Body.rn_okN.1 g2⟩
  | some g =>
    simp only [hg] at h ⊢
    obtain ⟨g0, g1, g2, g3, cur, e, lo, hi, g4, g5, g6, g7⟩ := h
    rw [hcl] at g6 g7
    refine ⟨Body.rn_ok.1 g0, .inr ⟨c, blk, hb, by show μc c = some g; rw [hμ hb k1]; exact hg⟩, fun c' blk' m1 m2 => ?_, by rw [k4]; exact Nat.zero_le _, cur, e, lo, hi, (Body.rn_obj (rnIn M (L ++ K)) blk.body cur e lo hi) ▸ g4, g5, by simpa using g6, fun j x hx => ?_⟩
    · obtain ⟨i', f1, f2, f3, f4⟩ := hF c' blk' m1
      have m2 : μc c' = some g := m2
      rw [hμ m1 f1] at m2
      obtain rfl := g2 i' _ f2 m2
      have a1 := sw_mem.1 (lkN_mem k1)
      have a2 := sw_mem.1 (lkN_mem f1)
      have := mem_lkN n2 a1
      rw [mem_lkN n2 a2] at this
      cases this
      rfl
    · obtain ⟨u, u1, u2⟩ := g7 j (x.rn (rnIn M (L ++ K))) (by simp [hx])
      refine ⟨u, u1, inv_rep0 hC hInv (fun k hk => ?_) u2⟩
      have h := List.all_eq_true.1 q1 (c, blk) (lookM_mem hb)
      simp only [Bool.and_eq_true] at h
      refine domL_ok h.2 k ?_
      have hx : blk.body.cells[j]? = some x := hx
      revert hx hk
      generalize blk.body = bd
      intro hk hx
      cases bd with
      | row z xs =>
        obtain ⟨e', _, rfl⟩ := List.mem_map.1 (List.mem_of_getElem? hx)
        cases hk
      | raw o => exact nomatch hx
      | box cs => cases cs with
        | es xs =>
          obtain ⟨e', _, rfl⟩ := List.mem_map.1 (List.mem_of_getElem? hx)
          cases hk
        | ds xs => exact List.mem_flatMap.2 ⟨x, List.mem_of_getElem? hx, hk⟩

/-- what was lent, and what came, taken back -/
theorem RM.back {M : Mem} {μ : Nat → Option Nat} {w w' : World} {ms ms' : List (Nat × Blk)} {L K A : List (Nat × Nat)} {μf : Nat → Option Nat} (h1 : RM X ⟨M, μ⟩ w) (hids : okIds ms ms' L K A = true) (hin : InOk M ms (rnIn M (L ++ K)) (L ++ K)) (hsh : ShOk ms ms' L)
    {I : Nat → Nat → Prop} (hI : I = fun b o => (¬ X.own b → X.I b o) ∧ (X.own b → ∀ id blk, M id = some blk → μ id = some b → o < blk.pub)) {μc : Nat → Option Nat} (hμc : μc = fun c => match lkN (L ++ K) c with | some i => μ i | none => none)
    (h2 : RM (XH w I ⟨lookM ms, μc⟩) ⟨lookM ms', μf⟩ w') (hkeep : ∀ id b, lookM ms id = some b → b.isBox = true → μf id = μc id) :
    ∃ μ', RM X ⟨memH M ms' L K A, μ'⟩ w' ∧ Kept ⟨M, μ⟩ (CW X ⟨M, μ⟩ w) w ⟨memH M ms' L K A, μ'⟩ (CW X ⟨memH M ms' L K A, μ'⟩ w') w' ∧
      (∀ b o u, CW (XH w I ⟨lookM ms, μc⟩) ⟨lookM ms', μf⟩ w' b o u → CW X ⟨memH M ms' L K A, μ'⟩ w' b o u) ∧ RnOk (rnOut M L A) allI ⟨lookM ms', μf⟩ ⟨memH M ms' L K A, μ'⟩ := by
  subst hI
  subst hμc
  obtain ⟨hF, hCin, hRc, hInv⟩ := RM.lend h1 hids hin
  unfold okIds at hids
  simp only [Bool.and_eq_true] at hids
  obtain ⟨q1, q2, q3, q4, ⟨⟨⟨⟨n1, n2⟩, n3⟩, n4⟩, n5⟩, n6⟩ := hids
  let μc : Nat → Option Nat := fun c => match lkN (L ++ K) c with | some i => μ i | none => none
  let I : Nat → Nat → Prop := fun b o => (¬ X.own b → X.I b o) ∧ (X.own b → ∀ id blk, M id = some blk → μ id = some b → o < blk.pub)
  let Xc := XH w I ⟨lookM ms, μc⟩
  have h2 : RM Xc ⟨lookM ms', μf⟩ w' := h2
  have hμ : ∀ {c i}, lkN (L ++ K) c = some i → μc c = μ i := fun {c i} hi => by
    show (match lkN (L ++ K) c with | some i => μ i | none => none) = _
    rw [hi]
  have exO : ∀ b, Xc.ex b → X.own b ∧ b < w.heap.size ∧ ∃ c i, (c, i) ∈ L ++ K ∧ μ i = some b ∧ ∃ blk, M i = some blk ∧ blk.pub = 0 := fun b ⟨c, blk, e1, e2⟩ => by
    obtain ⟨i, k1, k2, k3, k4⟩ := hF c blk e1
    have e2 : μc c = some b := e2
    rw [hμ k1] at e2
    have := h1.blk i _ k2
    simp only [BlkOk, e2] at this
    obtain ⟨_, g1, _, _, cur, e, lo, hi, g4, _⟩ := this
    exact ⟨g1, (Array.getElem?_eq_some_iff.1 g4).1, c, i, lkN_mem k1, e2, _, k2, k4⟩
  have F1 : ∀ id blk g, M id = some blk → μ id = some g → g < w.heap.size := fun id blk g m1 m2 => by
    have := h1.blk id blk m1
    simp only [BlkOk, m2] at this
    obtain ⟨_, _, _, _, cur, e, lo, hi, g4, _⟩ := this
    exact (Array.getElem?_eq_some_iff.1 g4).1
  have F2 : ∀ c blk g, lookM ms' c = some blk → μf c = some g → Xc.own g := fun i blk g m1 m2 => by
    have := h2.blk i blk m1
    simp only [BlkOk, m2] at this
    exact this.2.1
  have hnot : ∀ g, g < w.heap.size → ¬ Xc.ex g → ¬ Xc.own g := fun g hg hx ho => ho.elim (fun q => Nat.not_lt.2 q hg) hx
  have hXo : ∀ g, Xc.own g → X.own g := fun g ho => ho.elim (fun q => .inl (Nat.le_trans h1.bel.size q)) (fun q => (exO g q).1)
  have hold : ∀ k, k < w.heap.size → ¬ Xc.ex k → w'.heap[k]? = w.heap[k]? := fun k hk hx => h2.bel.block k hk hx
  have Fu : ∀ id blk g, M id = some blk → μ id = some g → lkN (swL (L ++ K)) id = none → ¬ Xc.ex g := fun id blk g m1 m2 m3 hx => by
    obtain ⟨_, _, c, i, e1, e2, blk', e3, _⟩ := exO g hx
    have := h1.blk i blk' e3
    simp only [BlkOk, e2] at this
    obtain rfl := this.2.2.1 id blk m1 m2
    rw [mem_lkN n2 (sw_mem.1 e1)] at m3
    cases m3
  let μ' : Nat → Option Nat := fun id => match lkN (swL L) id with
    | some c => μf c
    | none => match lkN (swL A) id with
      | some c => μf c
      | none => match lkN (swL K) id with
        | some _ => none
        | none => μ id
  let p : Rho := ⟨M, μ⟩
  let p' : Rho := ⟨memH M ms' L K A, μ'⟩
  let ρ := rnOut M L A
  let inv : Nat → Option Nat := fun id => match lkN (swL L) id with
    | some c => some c
    | none => lkN (swL A) id
  have swn : ∀ {id}, lkN (swL L) id = none → lkN (swL K) id = none → lkN (swL (L ++ K)) id = none := fun {id} e1 e2 => by
    cases hh : lkN (swL (L ++ K)) id with
    | none => rfl
    | some c =>
      rcases List.mem_append.1 (sw_mem.2 (lkN_mem hh)) with h | h
      · obtain ⟨k, hk⟩ := lkN_some (sw_mem.1 h); rw [hk] at e1; cases e1
      · obtain ⟨k, hk⟩ := lkN_some (sw_mem.1 h); rw [hk] at e2; cases e2
  have forth : ∀ c b, lookM ms' c = some b → p'.mem (ρ c).1 = some (b.out ρ (ρ c).2) ∧ p'.μ (ρ c).1 = μf c ∧ inv (ρ c).1 = some c := fun c b hb => by
    have h := List.all_eq_true.1 q3 (c, b) (lookM_mem hb)
    simp only [Bool.or_eq_true] at h
    cases hL : lkN L c with
    | some i =>
      have e1 : ρ c = (i, verOf M i) := by show rnOut M L A c = _; unfold rnOut; rw [hL]
      have e2 : lkN (swL L) i = some c := mem_lkN n4 (sw_mem.1 (lkN_mem hL))
      rw [e1]
      refine ⟨?_, ?_, ?_⟩
      · show memH M ms' L K A i = _
        unfold memH
        rw [e2]
        show (lookM ms' c).map _ = _
        rw [hb]
        rfl
      · show (match lkN (swL L) i with | some c => μf c | none => _) = _
        rw [e2]
      · show (match lkN (swL L) i with | some c => some c | none => _) = _
        rw [e2]
    | none =>
      rw [hL] at h
      obtain ⟨i, hA⟩ := isS_some (h.resolve_left (by simp [isS]))
      have e1 : ρ c = (i, nv M i) := by show rnOut M L A c = _; unfold rnOut; rw [hL]; simp only []; rw [hA]
      have h4 := List.all_eq_true.1 q4 (c, i) (lkN_mem hA)
      simp only [Bool.and_eq_true, Bool.not_eq_true'] at h4
      have e3 : lkN (swL L) i = none := by
        cases hz : lkN (swL L) i with
        | none => rfl
        | some z => have := h4.1.2; rw [hz] at this; cases this
      have e2 : lkN (swL A) i = some c := mem_lkN n6 (sw_mem.1 (lkN_mem hA))
      rw [e1]
      refine ⟨?_, ?_, ?_⟩
      · show memH M ms' L K A i = _
        unfold memH
        rw [e3]
        simp only []
        rw [e2]
        show (lookM ms' c).map _ = _
        rw [hb]
        rfl
      · show (match lkN (swL L) i with | some c => μf c | none => _) = _
        rw [e3]
        simp only []
        rw [e2]
      · show (match lkN (swL L) i with | some c => some c | none => _) = _
        rw [e3]
        exact e2
  have back : ∀ id blk, p'.mem id = some blk → (∃ c b, lookM ms' c = some b ∧ (ρ c).1 = id ∧ p'.μ id = μf c ∧ blk = b.out ρ (ρ c).2) ∨ (p'.μ id = none ∧ blk = ⟨nv M id, .row 1 [], 0⟩) ∨ (M id = some blk ∧ p'.μ id = μ id ∧ lkN (swL (L ++ K)) id = none) := fun id blk m1 => by
    have m1 : memH M ms' L K A id = some blk := m1
    cases hL : lkN (swL L) id with
    | some c =>
      unfold memH at m1
      rw [hL] at m1
      obtain ⟨b, hb, rfl⟩ := Option.map_eq_some_iff.1 m1
      have e1 : lkN L c = some id := mem_lkN n3 (sw_mem.2 (lkN_mem hL))
      have e2 : ρ c = (id, verOf M id) := by show rnOut M L A c = _; unfold rnOut; rw [e1]
      obtain ⟨f1, f2, f3⟩ := forth c b hb
      rw [e2] at f1 f2
      exact .inl ⟨c, b, hb, by rw [e2], f2, by rw [e2]⟩
    | none =>
      unfold memH at m1
      rw [hL] at m1
      simp only [] at m1
      cases hA : lkN (swL A) id with
      | some c =>
        rw [hA] at m1
        obtain ⟨b, hb, rfl⟩ := Option.map_eq_some_iff.1 m1
        have hm := sw_mem.2 (lkN_mem hA)
        have h4 := List.all_eq_true.1 q4 (c, id) hm
        simp only [Bool.and_eq_true, Bool.not_eq_true'] at h4
        have e0 : lkN L c = none := by
          cases hz : lkN L c with
          | none => rfl
          | some z => have := h4.1.1; rw [hz] at this; cases this
        have e2 : ρ c = (id, nv M id) := by show rnOut M L A c = _; unfold rnOut; rw [e0]; simp only []; rw [mem_lkN n5 hm]
        obtain ⟨f1, f2, f3⟩ := forth c b hb
        rw [e2] at f1 f2
        exact .inl ⟨c, b, hb, by rw [e2], f2, by rw [e2]⟩
      | none =>
        rw [hA] at m1
        simp only [] at m1
        have hp : p'.μ id = match lkN (swL K) id with | some _ => none | none => μ id := by
          show (match lkN (swL L) id with | some c => μf c | none => _) = _
          rw [hL]
          simp only []
          rw [hA]
        cases hK : lkN (swL K) id with
        | some c =>
          rw [hK] at m1 hp
          cases m1
          exact .inr (.inl ⟨hp, rfl⟩)
        | none =>
          rw [hK] at m1 hp
          exact .inr (.inr ⟨m1, hp, swn hL hK⟩)
  have hRn : RnOk ρ allI ⟨lookM ms', μf⟩ p' := fun c b _ hb => by
    obtain ⟨f1, f2, f3⟩ := forth c b hb
    exact ⟨_, f1, rfl, Body.rn_shape _ _, f2⟩
  have hC : ∀ b o u, CW X p w b o u → CW X p' w' b o u := fun b o u ⟨k1, k2, k3⟩ => by
    have hlt := cell_lt k1
    have hx : ¬ Xc.ex b := fun hx => by
      obtain ⟨g1, _, c, i, _, e2, blk, e3, e4⟩ := exO b hx
      have := k3 g1 i blk e3 e2
      omega
    refine ⟨by unfold World.cell? at k1 ⊢; simp only [hold b hlt hx]; exact k1, k2, fun ho id blk m1 m2 => ?_⟩
    rcases back id blk m1 with ⟨c, b', f1, f2, f3, f4⟩ | ⟨f1, _⟩ | ⟨f1, f2, f3⟩
    · rw [f3] at m2
      exact absurd (F2 c b' b f1 m2) (hnot b hlt hx)
    · rw [f1] at m2; cases m2
    · rw [f2] at m2
      exact k3 ho id blk f1 m2
  have hCn : ∀ b o u, CW Xc ⟨lookM ms', μf⟩ w' b o u → CW X p' w' b o u := fun b o u ⟨k1, k2, k3⟩ => by
    refine ⟨k1, fun hno => (k2 fun ho => hno (hXo b ho)).1 hno, fun ho id blk m1 m2 => ?_⟩
    rcases back id blk m1 with ⟨c, b', f1, f2, f3, f4⟩ | ⟨f1, _⟩ | ⟨f1, f2, f3⟩
    · rw [f3] at m2
      rw [f4]
      exact k3 (F2 c b' b f1 m2) c b' f1 m2
    · rw [f1] at m2; cases m2
    · rw [f2] at m2
      exact (k2 (hnot b (F1 id blk b f1 m2) (Fu id blk b f1 m2 f3))).2 ho id blk f1 m2
  have hK : Kept p (CW X p w) w p' (CW X p' w') w' := by
    refine ⟨hC, fun id blk hm => ?_⟩
    have hm : M id = some blk := hm
    have hv : verOf M id = blk.ver := by unfold verOf; rw [hm]
    have hnv : nv M id = blk.ver + 1 := by unfold nv; rw [hm]
    cases hL : lkN (swL L) id with
    | some c =>
      have hmL := sw_mem.2 (lkN_mem hL)
      have h := List.all_eq_true.1 q2 (c, id) hmL
      simp only at h
      cases hb : lookM ms c with
      | none => rw [hb] at h; cases h
      | some b =>
        cases hb' : lookM ms' c with
        | none => rw [hb, hb'] at h; cases h
        | some b' =>
          rw [hb, hb'] at h
          simp only [Bool.and_eq_true] at h
          have e1 : lkN L c = some id := mem_lkN n3 hmL
          have e2 : ρ c = (id, verOf M id) := by show rnOut M L A c = _; unfold rnOut; rw [e1]
          obtain ⟨f1, f2, f3⟩ := forth c b' hb'
          rw [e2] at f1 f2
          have hs := shOk_get hsh hmL
          simp only [hb, hb', Option.map_some, Option.some.injEq] at hs
          have hbv := Nat.eq_of_beq_eq_true h.2
          have hin2 := inOk_get hin (List.mem_append_left K hmL)
          simp only [hb, Option.map_some, hm] at hin2
          have hin2 := Option.some.inj hin2
          have hshp : blk.body.shape = b.body.shape := by rw [hin2]; exact Body.rn_shape _ _
          refine ⟨_, f1, by show blk.ver ≤ b'.ver + verOf M id; omega, fun _ => ⟨?_, ?_, fun h0 => ?_⟩⟩
          · rw [f2, hkeep c b hb h.1.1]
            show μc c = μ id
            exact hμ (mem_lkN n1 (List.mem_append_left K hmL))
          · rw [hshp, ← hs]
            exact Body.rn_shape _ _
          · exfalso
            rw [hshp] at h0
            have hbx := h.1.1
            unfold Blk.isBox at hbx
            revert h0 hbx
            cases b.body with
            | box c => intro h0 _; exact absurd h0 (Nat.lt_irrefl 0)
            | row z xs => intro _ hbx; cases hbx
            | raw o => intro _ hbx; cases hbx
    | none =>
      cases hA : lkN (swL A) id with
      | some c =>
        have hmA := sw_mem.2 (lkN_mem hA)
        have h4 := List.all_eq_true.1 q4 (c, id) hmA
        simp only [Bool.and_eq_true] at h4
        obtain ⟨b', hb'⟩ := isS_some h4.2
        have e : p'.mem id = some (b'.out ρ (nv M id)) := by
          show memH M ms' L K A id = _
          unfold memH
          rw [hL]
          simp only []
          rw [hA]
          show (lookM ms' c).map _ = _
          rw [hb']
          rfl
        exact ⟨_, e, by show blk.ver ≤ b'.ver + nv M id; omega, fun e => by
          have e : blk.ver = b'.ver + nv M id := e
          omega⟩
      | none =>
        cases hKk : lkN (swL K) id with
        | some c =>
          have e : p'.mem id = some ⟨nv M id, .row 1 [], 0⟩ := by
            show memH M ms' L K A id = _
            unfold memH
            rw [hL]
            simp only []
            rw [hA]
            simp only []
            rw [hKk]
          exact ⟨_, e, by show blk.ver ≤ nv M id; omega, fun e => by
            have e : blk.ver = nv M id := e
            omega⟩
        | none =>
          have e : p'.mem id = some blk := by
            show memH M ms' L K A id = _
            unfold memH
            rw [hL]
            simp only []
            rw [hA]
            simp only []
            rw [hKk]
            exact hm
          have e2 : p'.μ id = μ id := by
            show (match lkN (swL L) id with | some c => μf c | none => _) = _
            rw [hL]
            simp only []
            rw [hA]
            simp only []
            rw [hKk]
          refine ⟨blk, e, Nat.le_refl _, fun _ => ⟨e2, rfl, fun _ g n hg hz => ?_⟩⟩
          obtain ⟨cur, e', fr, z1, z2⟩ := hz
          exact ⟨cur, e', fr, by rw [hold g (F1 id blk g hm hg) (Fu id blk g hm hg (swn hL hKk))]; exact z1, z2⟩
  refine ⟨μ', ⟨⟨h2.bel.os.trans h1.bel.os, h2.bel.tape.trans h1.bel.tape, h2.bel.output.trans h1.bel.output, Nat.le_trans h1.bel.size h2.bel.size, fun k hk hx => ?_⟩, fun id blk hbk => ?_⟩, hK, hCn, hRn⟩
  · rw [hold k (Nat.lt_of_lt_of_le hk h1.bel.size) fun q => (exO k q).1.elim (fun z => Nat.not_lt.2 z hk) hx]
    exact h1.bel.block k hk hx
  · rcases back id blk hbk with ⟨c, b, f1, f2, f3, f4⟩ | ⟨f1, f4⟩ | ⟨f1, f2, f3⟩
    · have h := h2.blk c b f1
      have hcl : blk.cells = b.cells.map (D0.rn ρ) := by rw [f4]; exact Body.rn_cells _ _
      have hok : blk.body.ok ↔ b.body.ok := by rw [f4]; exact Body.rn_ok
      have hokN : blk.body.okN ↔ b.body.okN := by rw [f4]; exact Body.rn_okN
      have hobj : ∀ cur e lo hi, blk.body.obj cur e lo hi = b.body.obj cur e lo hi := fun cur e lo hi => by rw [f4]; exact Body.rn_obj _ _ _ _ _ _
      have hpb : blk.pub = b.pub := by rw [f4]; rfl
      unfold BlkOk at h ⊢
      rw [show p'.μ id = μf c from f3]
      cases hg : μf c with
      | none =>
        simp only [hg] at h ⊢
        obtain ⟨g0, g1, g2⟩ := h
        exact ⟨by rw [hcl, g0]; rfl, hpb.trans g1, hokN.2 g2⟩
      | some g =>
        simp only [hg] at h ⊢
        obtain ⟨g0, g1, g2, g3, cur, e, lo, hi, g4, g5, g6, g7⟩ := h
        refine ⟨hok.2 g0, hXo g g1, fun id' blk' m1 m2 => ?_, by rw [hpb, hcl, List.length_map]; exact g3, cur, e, lo, hi, by rw [hobj]; exact g4, g5, by rw [hcl, List.length_map]; exact g6, fun j x hx => ?_⟩
        · have m2 : p'.μ id' = some g := m2
          rcases back id' blk' m1 with ⟨c', b', e1, e2, e3, e4⟩ | ⟨e1, _⟩ | ⟨e1, e2, e3⟩
          · rw [e3] at m2
            obtain rfl := g2 c' b' e1 m2
            rw [← e2, ← f2]
          · rw [e1] at m2; cases m2
          · rw [e2] at m2
            exact absurd g1 (hnot g (F1 id' blk' g e1 m2) (Fu id' blk' g e1 m2 e3))
        · rw [hcl, List.getElem?_map, Option.map_eq_some_iff] at hx
          obtain ⟨x0, hx, rfl⟩ := hx
          obtain ⟨u, u1, u2⟩ := g7 j x0 hx
          exact ⟨u, u1, rn_rep0 hCn hRn u2⟩
    · unfold BlkOk
      rw [show p'.μ id = none from f1, f4]
      exact ⟨rfl, rfl, Nat.one_pos, fun cs h => nomatch h⟩
    · have h := h1.blk id blk f1
      unfold BlkOk at h ⊢
      rw [show p'.μ id = μ id from f2]
      cases hg : μ id with
      | none => simp only [hg] at h ⊢; exact h
      | some g =>
        simp only [hg] at h ⊢
        obtain ⟨g0, g1, g2, g3, cur, e, lo, hi, g4, g5, g6, g7⟩ := h
        have hx := Fu id blk g f1 hg f3
        have hl := F1 id blk g f1 hg
        refine ⟨g0, g1, fun id' blk' m1 m2 => ?_, g3, cur, e, lo, hi, by rw [hold g hl hx]; exact g4, g5, g6, fun j x hx => ?_⟩
        · have m2 : p'.μ id' = some g := m2
          rcases back id' blk' m1 with ⟨c', b', e1, e2, e3, e4⟩ | ⟨e1, _⟩ | ⟨e1, e2, e3⟩
          · rw [e3] at m2
            exact absurd (F2 c' b' g e1 m2) (hnot g hl hx)
          · rw [e1] at m2; cases m2
          · rw [e2] at m2
            exact g2 id' blk' e1 m2
        · obtain ⟨u, u1, u2⟩ := g7 j x hx
          exact ⟨u, u1, u2.kept hK⟩

/-- arguments: lent, or data -/
inductive ArgsH (m : Mem) (ρ : Rn) (dom : Nat → Bool) : List D → List D → Upds → Prop
  | nil : ArgsH m ρ dom [] [] []
  | lent {d a : D} {ds as : List D} {us : Upds} (h0 : d = a.rn ρ) (h1 : argOk a = true) (h2 : domL dom (idsD a) = true) (k : ArgsH m ρ dom ds as us) : ArgsH m ρ dom (d :: ds) (a :: as) us
  | data {d x : D} {ds as : List D} {u us : Upds} (h : dataD m d = some (x, u)) (k : ArgsH m ρ dom ds as us) : ArgsH m ρ dom (d :: ds) (x :: as) (u ++ us)
theorem argsH_ok {m : Mem} {ρ : Rn} {dom : Nat → Bool} {ds as : List D} {us : Upds} (h : ArgsH m ρ dom ds as us) : PubOk m us := by
  induction h with
  | nil => exact fun u hu => nomatch hu
  | lent _ _ _ _ ih => exact ih
  | data h _ ih =>
    intro v hv
    rcases List.mem_append.1 hv with hv | hv
    · exact dataD_ok h v hv
    · exact ih v hv
theorem argsH_rep {m m' : Mem} {μ : Nat → Option Nat} {w : World} {ρ : Rn} {dom : Nat → Bool} {pc : Rho} {C' : Nat → Nat → Value → Prop} (hR : RM X ⟨m', μ⟩ w) (hC : ∀ b o u, CW X ⟨m', μ⟩ w b o u → C' b o u) (hInv : InvOk ρ dom pc ⟨m', μ⟩) {ds as : List D} {us : Upds} (h : ArgsH m ρ dom ds as us) : ∀ {vs : List Value}, (ds.length = vs.length ∧ ∀ (i : Nat) d v, ds[i]? = some d → vs[i]? = some v → RepD ⟨m', μ⟩ (CW X ⟨m', μ⟩ w) w d v) → (∀ u ∈ us, m' u.1 = some u.2) → RepAsP pc C' w as vs := by
  induction h with
  | nil => intro vs hr _; exact ⟨hr.1, fun i d v hd => nomatch hd⟩
  | lent h0 h1 h2 _ ih =>
    subst h0
    intro vs hr hu
    cases vs with
    | nil => have := hr.1; simp at this
    | cons v vs =>
      have ih := ih (vs := vs) ⟨by simpa using hr.1, fun i d v hd hv => hr.2 (i + 1) d v (by simpa using hd) (by simpa using hv)⟩ hu
      have h0 := inv_rep hC hInv h1 (domL_ok h2) (hr.2 0 _ v rfl rfl)
      refine ⟨by simp [ih.1], fun i y u hy hu => ?_⟩
      cases i with
      | zero => simp at hy hu; subst hy; subst hu; exact h0
      | succ i => exact ih.2 i y u (by simpa using hy) (by simpa using hu)
  | data h _ ih =>
    intro vs hr hu
    cases vs with
    | nil => have := hr.1; simp at this
    | cons v vs =>
      have ih := ih (vs := vs) ⟨by simpa using hr.1, fun i d v hd hv => hr.2 (i + 1) d v (by simpa using hd) (by simpa using hv)⟩ (fun u hu' => hu u (by simp [hu']))
      have h0 := (dataD_rep hR (hr.2 0 _ v rfl rfl) h (fun u hu' => hu u (by simp [hu']))).kept (p0_kept (p := pc) hC)
      refine ⟨by simp [ih.1], fun i y u hy hu => ?_⟩
      cases i with
      | zero => simp at hy hu; subst hy; subst hu; exact h0
      | succ i => exact ih.2 i y u (by simpa using hy) (by simpa using hu)
def capOk (m : Mem) : List (Nat × Nat × Nat) → Bool
  | [] => true
  | c :: r => (match m c.1 with | some b => Nat.beq b.ver c.2.1 | none => false) && capOk m r
theorem capOk_get {m : Mem} : ∀ {l : List (Nat × Nat × Nat)} {c}, capOk m l = true → c ∈ l → ∃ b, m c.1 = some b ∧ b.ver = c.2.1
  | y :: r, c, h, hm => by
    rw [capOk, Bool.and_eq_true] at h
    rcases List.mem_cons.1 hm with rfl | hm
    · have h1 := h.1
      split at h1
      · rename_i b hb; exact ⟨b, hb, Nat.eq_of_beq_eq_true h1⟩
      · cases h1
    · exact capOk_get h.2 hm
theorem capD_rep {X : Ctx} {m : Mem} {μ : Nat → Option Nat} {w : World} : ∀ {cs : List (Nat × Nat × Nat)} {us : List Value}, capOk m cs = true → cs.length = us.length → (∀ (i : Nat) c u, cs[i]? = some c → us[i]? = some u → Live ⟨m, μ⟩ c.1 c.2.1 fun g => u = .pointer (some ⟨g, c.2.2, none⟩)) →
    (capD cs).length = us.length ∧ ∀ (i : Nat) d u, (capD cs)[i]? = some d → us[i]? = some u → RepD ⟨m, μ⟩ (CW X ⟨m, μ⟩ w) w d u
  | [], us, _, h, _ => ⟨h, fun i d u hd => nomatch hd⟩
  | c :: cs, [], _, h, _ => by cases h
  | c :: cs, u :: us, h0, h1, h2 => by
    have h0' := h0
    rw [capOk, Bool.and_eq_true] at h0
    obtain ⟨k1, k2⟩ := capD_rep (X := X) (w := w) h0.2 (by simpa using h1) (fun i c u hc hu => h2 (i + 1) c u (by simpa using hc) (by simpa using hu))
    refine ⟨by simp [capD, k1], fun i d v hd hv => ?_⟩
    cases i with
    | zero =>
      simp [capD] at hd hv
      subst hd
      subst hv
      have hlv := h2 0 c u rfl rfl
      refine ⟨?_, hlv⟩
      obtain ⟨b, e1, e2⟩ := capOk_get h0' (List.mem_cons_self ..)
      obtain ⟨blk, q1, q2, q3⟩ := hlv
      have q1 : m c.1 = some blk := q1
      rw [e1] at q1
      cases q1
      obtain ⟨g, _, rfl⟩ := q3 e2.symm
      rfl
    | succ i => exact k2 i d v (by simpa [capD] using hd) (by simpa using hv)
def putO (tm : Nat → D) (dst : Option Tmp) (d : D) : Nat → D := match dst with | some t => upd tm t d | none => tm

/-- a call that lends what it names -/
theorem opT_callH {gs : List (Nat × List E)} {ops : Array Oper} {s : St} {o : Oper} {fo : Operand} {f : Nat} {caps : List (Nat × Nat × Nat)} {args : Array Operand} {ts : Array TypeId} (L K A : List (Nat × Nat)) (hop : o.op = .call ⟨.value fo, args, ts⟩) (hgd : gdOf ops s o = .free) (hfo : (s.ev fo).strip = .one (.clo f caps)) (hcap : capOk s.mem caps = true) {as : List D} {us : Upds} {r : D} {ms ms' : List (Nat × Blk)}
    (has : ArgsH s.mem (rnIn (appU s.mem us) (L ++ K)) (fun c => isS (lookM ms c)) ((args.toList.map fun x => (s.ev x).strip) ++ capD caps) as us) (hn : ∀ p ∈ needL s (fo :: args.toList), p) (hgl : ∀ x ∈ gs, s.tm (1000000 + x.1) = .one (.eptr x.2)) (hfn : FnH P f gs ms as r ms')
    (hids : okIds ms ms' L K A = true) (hin : InOk (appU s.mem us) ms (rnIn (appU s.mem us) (L ++ K)) (L ++ K)) (hsh : ShOk ms ms' L) (hd : dstOk X.nt o.dst = true) : OpT P X ops o s ⟨putO s.tm o.dst (r.rn (rnOut (appU s.mem us) L A)), memH (appU s.mem us) ms' L K A⟩ := by
  intro Q a w ⟨μ, hM, hsz, hdf, hr⟩
  rw [if_pos (gd_free hgd a)]
  obtain ⟨⟨fn, c, k1, k2, k34⟩, hfn⟩ := hfn
  obtain ⟨k3, k4⟩ := Bool.or_eq_false_iff.1 k34
  obtain ⟨r1, r2, r3, r4⟩ := RM.pubs us s.mem hM (argsH_ok has)
  have hf := strip_rep (ev_rep hr fo) (needs_all hn fo (List.mem_cons_self ..))
  rw [hfo] at hf
  obtain ⟨vs0, hfv, hl0, hcp⟩ := hf
  rw [cloV_lt k4] at hfv
  obtain ⟨z1, z2⟩ := capD_rep (X := X) (w := w) hcap hl0 hcp
  obtain ⟨hF, hCin, hRc, hInv⟩ := RM.lend r1 hids hin
  let I : Nat → Nat → Prop := fun b o => (¬ X.own b → X.I b o) ∧ (X.own b → ∀ id blk, appU s.mem us id = some blk → μ id = some b → o < blk.pub)
  let μc : Nat → Option Nat := fun c => match lkN (L ++ K) c with | some i => μ i | none => none
  have hrep := argsH_rep (vs := (args.map a.eval).toList ++ vs0) r1 hCin hInv has ⟨by simp [z1], fun i d v hd hv => by
    by_cases hi : i < args.size
    · rw [List.getElem?_append_left (by simpa using hi)] at hd hv
      simp only [List.getElem?_map, Array.toList_map, Option.map_eq_some_iff] at hd hv
      obtain ⟨x, hx, rfl⟩ := hd
      obtain ⟨y, hy, rfl⟩ := hv
      rw [hx] at hy
      cases hy
      exact (strip_rep (ev_rep hr x) (needs_all hn x (List.mem_cons_of_mem _ (List.mem_of_getElem? hx)))).kept r2
    · rw [List.getElem?_append_right (by simpa using hi)] at hd hv
      simp only [List.length_map, Array.length_toList, Array.toList_map] at hd hv
      exact (z2 _ d v hd hv).kept r2⟩ r3
  have hcall : (execOp a.eval o).run P w = .ok (.enter f (args.map a.eval ++ vs0.toArray)) w := by
    have hb : fn.body.isNone = false := by rw [k2]; rfl
    have hne : ¬ (fn.name = "runtime.NumGoroutine") := by simpa using k3
    simp [execOp, hop, resolve, hfv, Deferred.ofValue, invoke, callFunc, k1, hne, k2]
  unfold Oper.wp
  rw [hcall, Oper.upon_enter]
  have hl : (args.map a.eval ++ vs0.toArray).toList = (args.map a.eval).toList ++ vs0 := by simp
  refine (hfn w (args.map a.eval ++ vs0.toArray) I μc hRc (fun x hx => by
    have h1 := hr (1000000 + x.1)
    rw [hgl x hx, slotV_glob] at h1
    exact eptr_mono hCin (h1.kept r2)) (by rw [hl]; exact hrep)).mono ?_
  rintro e w' ⟨v, rfl, μf, hMf, hkeep, hv⟩
  obtain ⟨μ', t1, t2, t3, t4⟩ := RM.back r1 hids hin hsh rfl rfl hMf hkeep
  have hv' := rn_rep t3 t4 hv
  refine ⟨μ', t1, by cases o.dst <;> simp [Act.put, hsz], by cases o.dst <;> exact hdf, ?_⟩
  have := put_rep (dst := o.dst) hr (r2.trans t2) hv' hsz hd []
  intro t
  have h := this t
  have e : (s.app o.dst (r.rn (rnOut (appU s.mem us) L A)) []).tm t = putO s.tm o.dst (r.rn (rnOut (appU s.mem us) L A)) t := by
    unfold St.app putO
    cases o.dst <;> rfl
  rw [e] at h
  exact h
/-- the same in a plain region -/
theorem callH (L K A : List (Nat × Nat)) {gs : List (Nat × List E)} {nt : Nat} {ops : Array Oper} {o : Oper} {rest : List Oper} {tm : Nat → D} {m : Mem} {fo : Operand} {f : Nat} {caps : List (Nat × Nat × Nat)} {args : Array Operand} {ts : Array TypeId} {as : List D} {us : Upds} {r : D} {ms ms' : List (Nat × Blk)} {s'' : St} (hop : o.op = .call ⟨.value fo, args, ts⟩) (hgd : gdOf ops ⟨tm, m⟩ o = .free) (hfo : ((⟨tm, m⟩ : St).ev fo).strip = .one (.clo f caps)) (hcap : capOk m caps = true)
    (hfn : FnH P f gs ms as r ms') (has : ArgsH m (rnIn m (L ++ K)) (fun c => isS (lookM ms c)) ((args.toList.map fun x => ((⟨tm, m⟩ : St).ev x).strip) ++ capD caps) as us) (hver : ∀ i, verOf (updM m us) i = verOf m i) (hn : needL ⟨tm, m⟩ (fo :: args.toList) = []) (hd : dstOk nt o.dst = true) (hnt : X.nt = nt) (hgl : gs.map (fun x => tm (1000000 + x.1)) = gs.map fun x => .one (.eptr x.2))
    (hids : okIds ms ms' L K A = true) (hin : InOk (updM m us) ms (rnIn m (L ++ K)) (L ++ K)) (hsh : ShOk ms ms' L) (k : Lex P X ops rest ⟨putO tm o.dst (r.rn (rnOut (updM m us) L A)), memH (updM m us) ms' L K A⟩ s'') : Lex P X ops (o :: rest) ⟨tm, m⟩ s'' := by
  have e : rnIn m (L ++ K) = rnIn (updM m us) (L ++ K) := by
    funext c
    unfold rnIn
    split
    · rw [hver]
    · rfl
  rw [e] at has hin
  rw [updM_eq] at has hin k
  exact .cons (opT_callH (s := ⟨tm, m⟩) L K A hop hgd hfo hcap has (fun p hp => by rw [hn] at hp; cases hp) (glob_of hgl) hfn hids hin hsh (by rw [hnt]; exact hd)) k

/-! ### an own row or variable under another number -/
def rn1 (i j : Nat) : Rn := fun c => bif Nat.beq c i then (j, 0) else (c, 0)
def memR (m : Mem) (i j : Nat) : Mem := fun id => bif Nat.beq id i then none else bif Nat.beq id j then (m i).map (Blk.out (rn1 i j) 0) else (m id).map (Blk.out (rn1 i j) 0)
theorem le_rn {s : St} (i j : Nat) (hj : s.mem j = none) (hij : Nat.beq j i = false) : Le X s ⟨fun t => (s.tm t).rn (rn1 i j), memR s.mem i j⟩ := by
  intro a w ⟨μ, hM, hsz, hdf, hr⟩
  let M := s.mem
  let μ' : Nat → Option Nat := fun id => bif Nat.beq id i then none else bif Nat.beq id j then μ i else μ id
  let p : Rho := ⟨M, μ⟩
  let p' : Rho := ⟨memR M i j, μ'⟩
  have hji : j ≠ i := fun e => by rw [e, Nat.beq_refl] at hij; cases hij
  have forth : ∀ c b, M c = some b → p'.mem ((rn1 i j) c).1 = some (b.out (rn1 i j) 0) ∧ p'.μ ((rn1 i j) c).1 = μ c ∧ ((rn1 i j) c).2 = 0 := fun c b hb => by
    cases hc : Nat.beq c i with
    | true =>
      obtain rfl := Nat.eq_of_beq_eq_true hc
      have e : (rn1 c j) c = (j, 0) := by unfold rn1; rw [hc]; rfl
      rw [e]
      refine ⟨?_, ?_, rfl⟩
      · show memR M c j j = _
        unfold memR
        rw [hij, Nat.beq_refl]
        show (M c).map _ = _
        rw [hb]
        rfl
      · show (bif Nat.beq j c then none else bif Nat.beq j j then μ c else μ j) = _
        rw [hij, Nat.beq_refl]
        rfl
    | false =>
      have e : (rn1 i j) c = (c, 0) := by unfold rn1; rw [hc]; rfl
      have hcj : Nat.beq c j = false := by
        cases hz : Nat.beq c j with
        | false => rfl
        | true => obtain rfl := Nat.eq_of_beq_eq_true hz; rw [show M c = none from hj] at hb; cases hb
      rw [e]
      refine ⟨?_, ?_, rfl⟩
      · show memR M i j c = _
        unfold memR
        rw [hc, hcj]
        show (M c).map _ = _
        rw [hb]
        rfl
      · show (bif Nat.beq c i then none else bif Nat.beq c j then μ i else μ c) = _
        rw [hc, hcj]
        rfl
  have back : ∀ id blk, p'.mem id = some blk → ∃ c b, M c = some b ∧ ((rn1 i j) c).1 = id ∧ p'.μ id = μ c ∧ blk = b.out (rn1 i j) 0 := fun id blk m1 => by
    have m1 : memR M i j id = some blk := m1
    unfold memR at m1
    cases h1 : Nat.beq id i with
    | true => rw [h1] at m1; cases m1
    | false =>
      rw [h1, cond_false] at m1
      cases h2 : Nat.beq id j with
      | true =>
        rw [h2] at m1
        obtain ⟨b, hb, rfl⟩ := Option.map_eq_some_iff.1 m1
        obtain rfl := Nat.eq_of_beq_eq_true h2
        obtain ⟨f1, f2, f3⟩ := forth i b hb
        have e : ((rn1 i id) i).1 = id := by unfold rn1; rw [Nat.beq_refl]; rfl
        rw [e] at f2
        exact ⟨i, b, hb, e, f2, rfl⟩
      | false =>
        rw [h2] at m1
        obtain ⟨b, hb, rfl⟩ := Option.map_eq_some_iff.1 m1
        obtain ⟨f1, f2, f3⟩ := forth id b hb
        have e : ((rn1 i j) id).1 = id := by unfold rn1; rw [h1]; rfl
        rw [e] at f2
        exact ⟨id, b, hb, e, f2, rfl⟩
  have inj : ∀ c c' b b', M c = some b → M c' = some b' → ((rn1 i j) c).1 = ((rn1 i j) c').1 → c = c' := fun c c' b b' m1 m2 e => by
    unfold rn1 at e
    cases h1 : Nat.beq c i with
    | true =>
      cases h2 : Nat.beq c' i with
      | true => rw [Nat.eq_of_beq_eq_true h1, Nat.eq_of_beq_eq_true h2]
      | false =>
        rw [h1, h2] at e
        have e : j = c' := e
        subst e
        rw [show M j = none from hj] at m2
        cases m2
    | false =>
      cases h2 : Nat.beq c' i with
      | true =>
        rw [h1, h2] at e
        have e : c = j := e
        subst e
        rw [show M c = none from hj] at m1
        cases m1
      | false => rw [h1, h2] at e; exact e
  have hRn : RnOk (rn1 i j) allI p p' := fun c b _ hb => by
    obtain ⟨f1, f2, f3⟩ := forth c b hb
    exact ⟨_, f1, by rw [f3]; rfl, Body.rn_shape _ _, f2⟩
  have hC : ∀ b o u, CW X p w b o u → CW X p' w b o u := fun b o u ⟨k1, k2, k3⟩ => ⟨k1, k2, fun ho id blk m1 m2 => by
    obtain ⟨c, b', f1, f2, f3, f4⟩ := back id blk m1
    rw [f3] at m2
    rw [f4]
    exact k3 ho c b' f1 m2⟩
  refine ⟨μ', ⟨hM.bel, fun id blk hbk => ?_⟩, hsz, hdf, fun t => rn_rep hC hRn (hr t)⟩
  obtain ⟨c, b, f1, f2, f3, f4⟩ := back id blk hbk
  have h := hM.blk c b f1
  have hcl : blk.cells = b.cells.map (D0.rn (rn1 i j)) := by rw [f4]; exact Body.rn_cells _ _
  have hok : blk.body.ok ↔ b.body.ok := by rw [f4]; exact Body.rn_ok
  have hokN : blk.body.okN ↔ b.body.okN := by rw [f4]; exact Body.rn_okN
  have hobj : ∀ cur e lo hi, blk.body.obj cur e lo hi = b.body.obj cur e lo hi := fun cur e lo hi => by rw [f4]; exact Body.rn_obj _ _ _ _ _ _
  have hpb : blk.pub = b.pub := by rw [f4]; rfl
  unfold BlkOk at h ⊢
  rw [show (⟨memR s.mem i j, μ'⟩ : Rho).μ id = μ c from f3]
  cases hg : μ c with
  | none =>
    simp only [hg] at h ⊢
    obtain ⟨g0, g1, g2⟩ := h
    exact ⟨by rw [hcl, g0]; rfl, hpb.trans g1, hokN.2 g2⟩
  | some g =>
    simp only [hg] at h ⊢
    obtain ⟨g0, g1, g2, g3, cur, e, lo, hi, g4, g5, g6, g7⟩ := h
    refine ⟨hok.2 g0, g1, fun id' blk' m1 m2 => ?_, by rw [hpb, hcl, List.length_map]; exact g3, cur, e, lo, hi, by rw [hobj]; exact g4, g5, by rw [hcl, List.length_map]; exact g6, fun k x hx => ?_⟩
    · obtain ⟨c', b', e1, e2, e3, e4⟩ := back id' blk' m1
      have e3 : μ' id' = μ c' := e3
      rw [e3] at m2
      obtain rfl := g2 c' b' e1 m2
      rw [← e2, ← f2]
    · rw [hcl, List.getElem?_map, Option.map_eq_some_iff] at hx
      obtain ⟨x0, hx, rfl⟩ := hx
      obtain ⟨u, u1, u2⟩ := g7 k x0 hx
      exact ⟨u, u1, rn_rep0 hC hRn u2⟩
end
end Go.Proofs.YtcdifgacoleckaaDoor.Ab
