/- Part of the proof: steps of the program over abstract states. No condition. -/
import Derived.Test.YtcdifgacoleckaaGreatDoorG04
set_option linter.unusedVariables false
set_option linter.unusedSimpArgs false
namespace Go.Proofs.YtcdifgacoleckaaGreatDoor.Ab
open Go Go.RowKit
def lkN : List (Nat × Nat) -> Nat -> Option Nat
 | [], _ => none
 | y :: r, t => bif Nat.beq t y.1 then some y.2 else lkN r t
def swL : List (Nat × Nat) -> List (Nat × Nat)
 | [] => []
 | y :: r => (y.2, y.1) :: swL r
def ndK : List (Nat × Nat) -> Bool
 | [] => true
 | y :: r => (match lkN r y.1 with | some _ => false | none => true) && ndK r
theorem zBs : ∀ {l : List (Nat × Nat)} {t i : Nat}, lkN l t = some i -> (t, i) ∈ l
 | [], t, i, h => nomatch h
 | y :: r, t, i, h => by
  rw [lkN] at h
  cases hb : Nat.beq t y.1 with
  | true =>
   rw [hb] at h
   cases h
   obtain rfl := Nat.eq_of_beq_eq_true hb
   exact List.mem_cons_self ..
  | false => rw [hb] at h; exact List.mem_cons_of_mem _ (zBs h)
theorem zDD : ∀ {l : List (Nat × Nat)} {t i : Nat}, (t, i) ∈ l -> ∃ k, lkN l t = some k
 | y :: r, t, i, h => by
  rw [lkN]
  cases hb : Nat.beq t y.1 with
  | true => exact ⟨_, rfl⟩
  | false =>
   rcases List.mem_cons.1 h with rfl | h
   ·rw [Nat.beq_refl] at hb; cases hb
   ·exact zDD h
theorem zCi : ∀ {l : List (Nat × Nat)} {t i : Nat}, ndK l = true -> (t, i) ∈ l -> lkN l t = some i
 | y :: r, t, i, hn, h => by
  rw [ndK, Bool.and_eq_true] at hn
  rw [lkN]
  rcases List.mem_cons.1 h with rfl | h
  ·rw [Nat.beq_refl]; rfl
  ·cases hb : Nat.beq t y.1 with
   | false => exact zCi hn.2 h
   | true =>
    obtain rfl := Nat.eq_of_beq_eq_true hb
    obtain ⟨k, hk⟩ := zDD h
    have h1 := hn.1
    rw [hk] at h1
    cases h1
theorem zBW : ∀ {l : List (Nat × Nat)} {t i : Nat}, (t, i) ∈ l ↔ (i, t) ∈ swL l
 | [], t, i => ⟨(nomatch ·), (nomatch ·)⟩
 | y :: r, t, i => by
  rw [swL, List.mem_cons, List.mem_cons, zBW (l := r)]
  constructor
  ·rintro (rfl | h)
   ·exact .inl rfl
   ·exact .inr h
  ·rintro (h | h)
   ·left; cases h; rfl
   ·exact .inr h
theorem zE9 : ∀ {l : List (Nat × Blk)} {t : Nat} {b : Blk}, zAl l t = some b -> (t, b) ∈ l
 | [], t, b, h => nomatch h
 | y :: r, t, b, h => by
  obtain ⟨k, c⟩ := y
  rw [zAl] at h
  cases hb : Nat.beq t k with
  | true =>
   rw [hb] at h
   cases h
   obtain rfl := Nat.eq_of_beq_eq_true hb
   exact List.mem_cons_self ..
  | false => rw [hb] at h; exact List.mem_cons_of_mem _ (zE9 h)
def isS {α : Type} : Option α -> Bool
 | some _ => true
 | none => false
theorem zEj {α : Type} {x : Option α} (h : isS x = true) : ∃ y, x = some y := by
 cases x with
 | some y => exact ⟨y, rfl⟩
 | none => cases h
def zA7 (m : Mem) (i : Nat) : Nat := match m i with | some b => b.ver | none => 0
def zBN (m : Mem) (LK : List (Nat × Nat)) : Rn := fun c => match lkN LK c with | some i => (i, zA7 m i) | none => (c, 0)
def zBu (m : Mem) (L A : List (Nat × Nat)) : Rn := fun c => match lkN L c with
 | some i => (i, zA7 m i)
 | none => match lkN A c with
  | some i => (i, nv m i)
  | none => (c, 0)
def Blk.out (ρ : Rn) (k : Nat) (b : Blk) : Blk := ⟨b.ver + k, b.body.rn ρ, b.pub⟩
def zDo (m : Mem) (ms' : List (Nat × Blk)) (L K A : List (Nat × Nat)) : Mem := fun id => match lkN (swL L) id with
 | some c => (zAl ms' c).map (Blk.out (zBu m L A) (zA7 m id))
 | none => match lkN (swL A) id with
  | some c => (zAl ms' c).map (Blk.out (zBu m L A) (nv m id))
  | none => match lkN (swL K) id with
   | some _ => some ⟨nv m id, .row 1 [], 0⟩
   | none => m id
def zWP : Body -> List Nat
 | .box c => zQM c
 | .row _ _ => []
 | .raw _ => []
def zCT (ms ms' : List (Nat × Blk)) (L K A : List (Nat × Nat)) : Bool :=
 ms.all (fun x => Nat.beq x.2.ver 0 && Nat.beq x.2.pub 0 && (bif x.2.isBox then isS (lkN L x.1) else isS (lkN K x.1)) && zTn (fun c => isS (zAl ms c)) (zWP x.2.body)) &&
 (L.all (fun y => match zAl ms y.1, zAl ms' y.1 with | some b, some b' => b.isBox && b'.isBox && Nat.beq b'.ver 0 | _, _ => false) &&
 (ms'.all (fun x => isS (lkN L x.1) || isS (lkN A x.1)) &&
 (A.all (fun y => !isS (lkN L y.1) && !isS (lkN (swL L) y.2) && isS (zAl ms' y.1)) &&
 (ndK (L ++ K) && ndK (swL (L ++ K)) && ndK L && ndK (swL L) && ndK A && ndK (swL A)))))
def zHj (m : Mem) (ms : List (Nat × Blk)) (ρ : Rn) : List (Nat × Nat) -> Prop
 | [] => True
 | y :: r => m y.2 = (zAl ms y.1).map (Blk.out ρ (zA7 m y.2)) /\ zHj m ms ρ r
def zJe (ms ms' : List (Nat × Blk)) : List (Nat × Nat) -> Prop
 | [] => True
 | y :: r => ((zAl ms' y.1).map fun b => b.body.shape) = ((zAl ms y.1).map fun b => b.body.shape) /\ zJe ms ms' r
theorem zIB {m : Mem} {ms : List (Nat × Blk)} {ρ : Rn} : ∀ {l : List (Nat × Nat)} {y : Nat × Nat}, zHj m ms ρ l -> y ∈ l -> m y.2 = (zAl ms y.1).map (Blk.out ρ (zA7 m y.2))
 | z :: r, y, h, hm => by
  rcases List.mem_cons.1 hm with rfl | hm
  ·exact h.1
  ·exact zIB h.2 hm
theorem zLR {ms ms' : List (Nat × Blk)} : ∀ {l : List (Nat × Nat)} {y : Nat × Nat}, zJe ms ms' l -> y ∈ l -> ((zAl ms' y.1).map fun b => b.body.shape) = ((zAl ms y.1).map fun b => b.body.shape)
 | z :: r, y, h, hm => by
  rcases List.mem_cons.1 hm with rfl | hm
  ·exact h.1
  ·exact zLR h.2 hm
section
variable {P : Program} {X : Ctx}
theorem RM.lend {M : Mem} {μ : Nat -> Option Nat} {w : World} {ms ms' : List (Nat × Blk)} {L K A : List (Nat × Nat)} (h1 : RM X ⟨M, μ⟩ w) (hids : zCT ms ms' L K A = true) (hin : zHj M ms (zBN M (L ++ K)) (L ++ K)) :
  let I : Nat -> Nat -> Prop := fun b o => (¬ X.own b -> X.I b o) /\ (X.own b -> ∀ id blk, M id = some blk -> μ id = some b -> o < blk.pub)
  let μc : Nat -> Option Nat := fun c => match lkN (L ++ K) c with | some i => μ i | none => none
  let Xc := XH w I ⟨zAl ms, μc⟩
  (∀ c b, zAl ms c = some b -> ∃ i, lkN (L ++ K) c = some i /\ M i = some (b.out (zBN M (L ++ K)) (zA7 M i)) /\ b.ver = 0 /\ b.pub = 0) ∧
  (∀ b o u, CW X ⟨M, μ⟩ w b o u -> CW Xc ⟨zAl ms, μc⟩ w b o u) /\ RM Xc ⟨zAl ms, μc⟩ w /\ zLw (zBN M (L ++ K)) (fun c => isS (zAl ms c)) ⟨zAl ms, μc⟩ ⟨M, μ⟩ := by
 intro I μc Xc
 unfold zCT at hids
 simp only [Bool.and_eq_true] at hids
 obtain ⟨q1, q2, q3, q4, ⟨⟨⟨⟨n1, n2⟩, n3⟩, n4⟩, n5⟩, n6⟩ := hids
 have hF : ∀ c b, zAl ms c = some b -> ∃ i, lkN (L ++ K) c = some i /\ M i = some (b.out (zBN M (L ++ K)) (zA7 M i)) /\ b.ver = 0 /\ b.pub = 0 := fun c b hb => by
  have h := List.all_eq_true.1 q1 (c, b) (zE9 hb)
  simp only [Bool.and_eq_true] at h
  obtain ⟨⟨⟨e1, e2⟩, e3⟩, e4⟩ := h
  have : ∃ i, (c, i) ∈ L ++ K := by
   cases hx : b.isBox with
   | true =>
    rw [hx] at e3
    obtain ⟨i, hi⟩ := zEj e3
    exact ⟨i, List.mem_append_left _ (zBs hi)⟩
   | false =>
    rw [hx] at e3
    obtain ⟨i, hi⟩ := zEj e3
    exact ⟨i, List.mem_append_right _ (zBs hi)⟩
  obtain ⟨i, hi⟩ := this
  have h2 := zIB hin hi
  have h2 : M i = (zAl ms c).map (Blk.out (zBN M (L ++ K)) (zA7 M i)) := h2
  rw [hb] at h2
  exact ⟨i, zCi n1 hi, h2, Nat.eq_of_beq_eq_true e1, Nat.eq_of_beq_eq_true e2⟩
 have hμ : ∀ {c b i}, zAl ms c = some b -> lkN (L ++ K) c = some i -> μc c = μ i := fun {c b i} _ hi => by
  show (match lkN (L ++ K) c with | some i => μ i | none => none) = _
  rw [hi]
 have hρ : ∀ {c i}, lkN (L ++ K) c = some i -> zBN M (L ++ K) c = (i, zA7 M i) := fun {c i} hi => by
  unfold zBN
  rw [hi]
 have hInv : zLw (zBN M (L ++ K)) (fun c => isS (zAl ms c)) ⟨zAl ms, μc⟩ ⟨M, μ⟩ := fun c hc => by
  obtain ⟨b, hb⟩ := zEj hc
  obtain ⟨i, k1, k2, k3, k4⟩ := hF c b hb
  rw [hρ k1]
  refine ⟨b, _, hb, k2, rfl, Body.rn_shape _ _, (hμ hb k1).symm⟩
 have hown : ∀ b, Xc.ex b -> X.own b := fun b ⟨c, blk, e1, e2⟩ => by
  obtain ⟨i, k1, k2, k3, k4⟩ := hF c blk e1
  have e2 : μc c = some b := e2
  rw [hμ e1 k1] at e2
  have := h1.blk i _ k2
  simp only [zAP, e2] at this
  exact this.2.1
 have hC : ∀ b o u, CW X ⟨M, μ⟩ w b o u -> CW Xc ⟨zAl ms, μc⟩ w b o u := fun b o u ⟨k1, k2, k3⟩ => by
  refine ⟨k1, fun _ => ⟨k2, k3⟩, fun hx c blk e1 e2 => ?_⟩
  have e2 : μc c = some b := e2
  obtain ⟨i, f1, f2, f3, f4⟩ := hF c blk e1
  rw [hμ e1 f1] at e2
  have := k3 (hx.elim (fun q => .inl (Nat.le_trans h1.bel.size q)) (hown b)) i _ f2 e2
  exact this
 refine ⟨hF, hC, ⟨Bel.refl Xc, fun c blk hb => ?_⟩, hInv⟩
 have hb : zAl ms c = some blk := hb
 obtain ⟨i, k1, k2, k3, k4⟩ := hF c blk hb
 have h := h1.blk i _ k2
 have hcl : (blk.out (zBN M (L ++ K)) (zA7 M i)).cells = blk.cells.map (D0.rn (zBN M (L ++ K))) := Body.rn_cells _ _
 unfold zAP at h ⊢
 show match μc c with | none => _ | some g => _
 rw [hμ hb k1]
 cases hg : μ i with
 | none =>
  simp only [hg] at h ⊢
  obtain ⟨g0, g1, g2⟩ := h
  rw [hcl] at g0
  exact ⟨by simpa using g0, k4, Body.rn_okN.1 g2⟩
 | some g =>
  simp only [hg] at h ⊢
  obtain ⟨g0, g1, g2, g3, cur, e, lo, hi, g4, g5, g6, g7⟩ := h
  rw [hcl] at g6 g7
  refine ⟨Body.rn_ok.1 g0, .inr ⟨c, blk, hb, by show μc c = some g; rw [hμ hb k1]; exact hg⟩, fun c' blk' m1 m2 => ?_, by rw [k4]; exact Nat.zero_le _, cur, e, lo, hi, (Body.rn_obj (zBN M (L ++ K)) blk.body cur e lo hi) ▸ g4, g5, by simpa using g6, fun j x hx => ?_⟩
  ·obtain ⟨i', f1, f2, f3, f4⟩ := hF c' blk' m1
   have m2 : μc c' = some g := m2
   rw [hμ m1 f1] at m2
   obtain rfl := g2 i' _ f2 m2
   have a1 := zBW.1 (zBs k1)
   have a2 := zBW.1 (zBs f1)
   have := zCi n2 a1
   rw [zCi n2 a2] at this
   cases this
   rfl
  ·obtain ⟨u, u1, u2⟩ := g7 j (x.rn (zBN M (L ++ K))) (by simp [hx])
   refine ⟨u, u1, zIz hC hInv (fun k hk => ?_) u2⟩
   have h := List.all_eq_true.1 q1 (c, blk) (zE9 hb)
   simp only [Bool.and_eq_true] at h
   refine zLn h.2 k ?_
   have hx : blk.body.cells[j]? = some x := hx
   revert hx hk
   generalize blk.body = bd
   intro hk hx
   cases bd with
   | row z xs =>
    obtain ⟨e', _, rfl⟩ := List.mem_map.1 (List.mem_of_getElem? hx)
    cases hk
   | raw o => exact nomatch hx
   | box cs => cases cs with
    | es xs =>
     obtain ⟨e', _, rfl⟩ := List.mem_map.1 (List.mem_of_getElem? hx)
     cases hk
    | ds xs => exact List.mem_flatMap.2 ⟨x, List.mem_of_getElem? hx, hk⟩
theorem RM.back {M : Mem} {μ : Nat -> Option Nat} {w w' : World} {ms ms' : List (Nat × Blk)} {L K A : List (Nat × Nat)} {μf : Nat -> Option Nat} (h1 : RM X ⟨M, μ⟩ w) (hids : zCT ms ms' L K A = true) (hin : zHj M ms (zBN M (L ++ K)) (L ++ K)) (hsh : zJe ms ms' L)
  {I : Nat -> Nat -> Prop} (hI : I = fun b o => (¬ X.own b -> X.I b o) /\ (X.own b -> ∀ id blk, M id = some blk -> μ id = some b -> o < blk.pub)) {μc : Nat -> Option Nat} (hμc : μc = fun c => match lkN (L ++ K) c with | some i => μ i | none => none)
  (h2 : RM (XH w I ⟨zAl ms, μc⟩) ⟨zAl ms', μf⟩ w') (hkeep : ∀ id b, zAl ms id = some b -> b.isBox = true -> μf id = μc id) :
  ∃ μ', RM X ⟨zDo M ms' L K A, μ'⟩ w' /\ Kept ⟨M, μ⟩ (CW X ⟨M, μ⟩ w) w ⟨zDo M ms' L K A, μ'⟩ (CW X ⟨zDo M ms' L K A, μ'⟩ w') w' ∧
   (∀ b o u, CW (XH w I ⟨zAl ms, μc⟩) ⟨zAl ms', μf⟩ w' b o u -> CW X ⟨zDo M ms' L K A, μ'⟩ w' b o u) /\ zTt (zBu M L A) zTr ⟨zAl ms', μf⟩ ⟨zDo M ms' L K A, μ'⟩ := by
 subst hI
 subst hμc
 obtain ⟨hF, hCin, hRc, hInv⟩ := RM.lend h1 hids hin
 unfold zCT at hids
 simp only [Bool.and_eq_true] at hids
 obtain ⟨q1, q2, q3, q4, ⟨⟨⟨⟨n1, n2⟩, n3⟩, n4⟩, n5⟩, n6⟩ := hids
 let μc : Nat -> Option Nat := fun c => match lkN (L ++ K) c with | some i => μ i | none => none
 let I : Nat -> Nat -> Prop := fun b o => (¬ X.own b -> X.I b o) /\ (X.own b -> ∀ id blk, M id = some blk -> μ id = some b -> o < blk.pub)
 let Xc := XH w I ⟨zAl ms, μc⟩
 have h2 : RM Xc ⟨zAl ms', μf⟩ w' := h2
 have hμ : ∀ {c i}, lkN (L ++ K) c = some i -> μc c = μ i := fun {c i} hi => by
  show (match lkN (L ++ K) c with | some i => μ i | none => none) = _
  rw [hi]
 have exO : ∀ b, Xc.ex b -> X.own b /\ b < w.heap.size /\ ∃ c i, (c, i) ∈ L ++ K /\ μ i = some b /\ ∃ blk, M i = some blk /\ blk.pub = 0 := fun b ⟨c, blk, e1, e2⟩ => by
  obtain ⟨i, k1, k2, k3, k4⟩ := hF c blk e1
  have e2 : μc c = some b := e2
  rw [hμ k1] at e2
  have := h1.blk i _ k2
  simp only [zAP, e2] at this
  obtain ⟨_, g1, _, _, cur, e, lo, hi, g4, _⟩ := this
  exact ⟨g1, (Array.getElem?_eq_some_iff.1 g4).1, c, i, zBs k1, e2, _, k2, k4⟩
 have F1 : ∀ id blk g, M id = some blk -> μ id = some g -> g < w.heap.size := fun id blk g m1 m2 => by
  have := h1.blk id blk m1
  simp only [zAP, m2] at this
  obtain ⟨_, _, _, _, cur, e, lo, hi, g4, _⟩ := this
  exact (Array.getElem?_eq_some_iff.1 g4).1
 have F2 : ∀ c blk g, zAl ms' c = some blk -> μf c = some g -> Xc.own g := fun i blk g m1 m2 => by
  have := h2.blk i blk m1
  simp only [zAP, m2] at this
  exact this.2.1
 have hnot : ∀ g, g < w.heap.size -> ¬ Xc.ex g -> ¬ Xc.own g := fun g hg hx ho => ho.elim (fun q => Nat.not_lt.2 q hg) hx
 have hXo : ∀ g, Xc.own g -> X.own g := fun g ho => ho.elim (fun q => .inl (Nat.le_trans h1.bel.size q)) (fun q => (exO g q).1)
 have hold : ∀ k, k < w.heap.size -> ¬ Xc.ex k -> w'.heap[k]? = w.heap[k]? := fun k hk hx => h2.bel.block k hk hx
 have Fu : ∀ id blk g, M id = some blk -> μ id = some g -> lkN (swL (L ++ K)) id = none -> ¬ Xc.ex g := fun id blk g m1 m2 m3 hx => by
  obtain ⟨_, _, c, i, e1, e2, blk', e3, _⟩ := exO g hx
  have := h1.blk i blk' e3
  simp only [zAP, e2] at this
  obtain rfl := this.2.2.1 id blk m1 m2
  rw [zCi n2 (zBW.1 e1)] at m3
  cases m3
 let μ' : Nat -> Option Nat := fun id => match lkN (swL L) id with
  | some c => μf c
  | none => match lkN (swL A) id with
   | some c => μf c
   | none => match lkN (swL K) id with
    | some _ => none
    | none => μ id
 let p : Rho := ⟨M, μ⟩
 let p' : Rho := ⟨zDo M ms' L K A, μ'⟩
 let ρ := zBu M L A
 let inv : Nat -> Option Nat := fun id => match lkN (swL L) id with
  | some c => some c
  | none => lkN (swL A) id
 have swn : ∀ {id}, lkN (swL L) id = none -> lkN (swL K) id = none -> lkN (swL (L ++ K)) id = none := fun {id} e1 e2 => by
  cases hh : lkN (swL (L ++ K)) id with
  | none => rfl
  | some c =>
   rcases List.mem_append.1 (zBW.2 (zBs hh)) with h | h
   ·obtain ⟨k, hk⟩ := zDD (zBW.1 h); rw [hk] at e1; cases e1
   ·obtain ⟨k, hk⟩ := zDD (zBW.1 h); rw [hk] at e2; cases e2
 have forth : ∀ c b, zAl ms' c = some b -> p'.mem (ρ c).1 = some (b.out ρ (ρ c).2) /\ p'.μ (ρ c).1 = μf c /\ inv (ρ c).1 = some c := fun c b hb => by
  have h := List.all_eq_true.1 q3 (c, b) (zE9 hb)
  simp only [Bool.or_eq_true] at h
  cases hL : lkN L c with
  | some i =>
   have e1 : ρ c = (i, zA7 M i) := by show zBu M L A c = _; unfold zBu; rw [hL]
   have e2 : lkN (swL L) i = some c := zCi n4 (zBW.1 (zBs hL))
   rw [e1]
   refine ⟨?_, ?_, ?_⟩
   ·show zDo M ms' L K A i = _
    unfold zDo
    rw [e2]
    show (zAl ms' c).map _ = _
    rw [hb]
    rfl
   ·show (match lkN (swL L) i with | some c => μf c | none => _) = _
    rw [e2]
   ·show (match lkN (swL L) i with | some c => some c | none => _) = _
    rw [e2]
  | none =>
   rw [hL] at h
   obtain ⟨i, hA⟩ := zEj (h.resolve_left (by simp [isS]))
   have e1 : ρ c = (i, nv M i) := by show zBu M L A c = _; unfold zBu; rw [hL]; simp only []; rw [hA]
   have h4 := List.all_eq_true.1 q4 (c, i) (zBs hA)
   simp only [Bool.and_eq_true, Bool.not_eq_true'] at h4
   have e3 : lkN (swL L) i = none := by
    cases hz : lkN (swL L) i with
    | none => rfl
    | some z => have := h4.1.2; rw [hz] at this; cases this
   have e2 : lkN (swL A) i = some c := zCi n6 (zBW.1 (zBs hA))
   rw [e1]
   refine ⟨?_, ?_, ?_⟩
   ·show zDo M ms' L K A i = _
    unfold zDo
    rw [e3]
    simp only []
    rw [e2]
    show (zAl ms' c).map _ = _
    rw [hb]
    rfl
   ·show (match lkN (swL L) i with | some c => μf c | none => _) = _
    rw [e3]
    simp only []
    rw [e2]
   ·show (match lkN (swL L) i with | some c => some c | none => _) = _
    rw [e3]
    exact e2
 have back : ∀ id blk, p'.mem id = some blk -> (∃ c b, zAl ms' c = some b /\ (ρ c).1 = id /\ p'.μ id = μf c /\ blk = b.out ρ (ρ c).2) \/ (p'.μ id = none /\ blk = ⟨nv M id, .row 1 [], 0⟩) \/ (M id = some blk /\ p'.μ id = μ id /\ lkN (swL (L ++ K)) id = none) := fun id blk m1 => by
  have m1 : zDo M ms' L K A id = some blk := m1
  cases hL : lkN (swL L) id with
  | some c =>
   unfold zDo at m1
   rw [hL] at m1
   obtain ⟨b, hb, rfl⟩ := Option.map_eq_some_iff.1 m1
   have e1 : lkN L c = some id := zCi n3 (zBW.2 (zBs hL))
   have e2 : ρ c = (id, zA7 M id) := by show zBu M L A c = _; unfold zBu; rw [e1]
   obtain ⟨f1, f2, f3⟩ := forth c b hb
   rw [e2] at f1 f2
   exact .inl ⟨c, b, hb, by rw [e2], f2, by rw [e2]⟩
  | none =>
   unfold zDo at m1
   rw [hL] at m1
   simp only [] at m1
   cases hA : lkN (swL A) id with
   | some c =>
    rw [hA] at m1
    obtain ⟨b, hb, rfl⟩ := Option.map_eq_some_iff.1 m1
    have hm := zBW.2 (zBs hA)
    have h4 := List.all_eq_true.1 q4 (c, id) hm
    simp only [Bool.and_eq_true, Bool.not_eq_true'] at h4
    have e0 : lkN L c = none := by
     cases hz : lkN L c with
     | none => rfl
     | some z => have := h4.1.1; rw [hz] at this; cases this
    have e2 : ρ c = (id, nv M id) := by show zBu M L A c = _; unfold zBu; rw [e0]; simp only []; rw [zCi n5 hm]
    obtain ⟨f1, f2, f3⟩ := forth c b hb
    rw [e2] at f1 f2
    exact .inl ⟨c, b, hb, by rw [e2], f2, by rw [e2]⟩
   | none =>
    rw [hA] at m1
    simp only [] at m1
    have hp : p'.μ id = match lkN (swL K) id with | some _ => none | none => μ id := by
     show (match lkN (swL L) id with | some c => μf c | none => _) = _
     rw [hL]
     simp only []
     rw [hA]
    cases hK : lkN (swL K) id with
    | some c =>
     rw [hK] at m1 hp
     cases m1
     exact .inr (.inl ⟨hp, rfl⟩)
    | none =>
     rw [hK] at m1 hp
     exact .inr (.inr ⟨m1, hp, swn hL hK⟩)
 have hRn : zTt ρ zTr ⟨zAl ms', μf⟩ p' := fun c b _ hb => by
  obtain ⟨f1, f2, f3⟩ := forth c b hb
  exact ⟨_, f1, rfl, Body.rn_shape _ _, f2⟩
 have hC : ∀ b o u, CW X p w b o u -> CW X p' w' b o u := fun b o u ⟨k1, k2, k3⟩ => by
  have hlt := zEQ k1
  have hx : ¬ Xc.ex b := fun hx => by
   obtain ⟨g1, _, c, i, _, e2, blk, e3, e4⟩ := exO b hx
   have := k3 g1 i blk e3 e2
   omega
  refine ⟨by unfold World.cell? at k1 ⊢; simp only [hold b hlt hx]; exact k1, k2, fun ho id blk m1 m2 => ?_⟩
  rcases back id blk m1 with ⟨c, b', f1, f2, f3, f4⟩ | ⟨f1, _⟩ | ⟨f1, f2, f3⟩
  ·rw [f3] at m2
   exact absurd (F2 c b' b f1 m2) (hnot b hlt hx)
  ·rw [f1] at m2; cases m2
  ·rw [f2] at m2
   exact k3 ho id blk f1 m2
 have hCn : ∀ b o u, CW Xc ⟨zAl ms', μf⟩ w' b o u -> CW X p' w' b o u := fun b o u ⟨k1, k2, k3⟩ => by
  refine ⟨k1, fun hno => (k2 fun ho => hno (hXo b ho)).1 hno, fun ho id blk m1 m2 => ?_⟩
  rcases back id blk m1 with ⟨c, b', f1, f2, f3, f4⟩ | ⟨f1, _⟩ | ⟨f1, f2, f3⟩
  ·rw [f3] at m2
   rw [f4]
   exact k3 (F2 c b' b f1 m2) c b' f1 m2
  ·rw [f1] at m2; cases m2
  ·rw [f2] at m2
   exact (k2 (hnot b (F1 id blk b f1 m2) (Fu id blk b f1 m2 f3))).2 ho id blk f1 m2
 have hK : Kept p (CW X p w) w p' (CW X p' w') w' := by
  refine ⟨hC, fun id blk hm => ?_⟩
  have hm : M id = some blk := hm
  have hv : zA7 M id = blk.ver := by unfold zA7; rw [hm]
  have hnv : nv M id = blk.ver + 1 := by unfold nv; rw [hm]
  cases hL : lkN (swL L) id with
  | some c =>
   have hmL := zBW.2 (zBs hL)
   have h := List.all_eq_true.1 q2 (c, id) hmL
   simp only at h
   cases hb : zAl ms c with
   | none => rw [hb] at h; cases h
   | some b =>
    cases hb' : zAl ms' c with
    | none => rw [hb, hb'] at h; cases h
    | some b' =>
     rw [hb, hb'] at h
     simp only [Bool.and_eq_true] at h
     have e1 : lkN L c = some id := zCi n3 hmL
     have e2 : ρ c = (id, zA7 M id) := by show zBu M L A c = _; unfold zBu; rw [e1]
     obtain ⟨f1, f2, f3⟩ := forth c b' hb'
     rw [e2] at f1 f2
     have hs := zLR hsh hmL
     simp only [hb, hb', Option.map_some, Option.some.injEq] at hs
     have hbv := Nat.eq_of_beq_eq_true h.2
     have hin2 := zIB hin (List.mem_append_left K hmL)
     simp only [hb, Option.map_some, hm] at hin2
     have hin2 := Option.some.inj hin2
     have hshp : blk.body.shape = b.body.shape := by rw [hin2]; exact Body.rn_shape _ _
     refine ⟨_, f1, by show blk.ver <= b'.ver + zA7 M id; omega, fun _ => ⟨?_, ?_, fun h0 => ?_⟩⟩
     ·rw [f2, hkeep c b hb h.1.1]
      show μc c = μ id
      exact hμ (zCi n1 (List.mem_append_left K hmL))
     ·rw [hshp, <-hs]
      exact Body.rn_shape _ _
     ·exfalso
      rw [hshp] at h0
      have hbx := h.1.1
      unfold Blk.isBox at hbx
      revert h0 hbx
      cases b.body with
      | box c => intro h0 _; exact absurd h0 (Nat.lt_irrefl 0)
      | row z xs => intro _ hbx; cases hbx
      | raw o => intro _ hbx; cases hbx
  | none =>
   cases hA : lkN (swL A) id with
   | some c =>
    have hmA := zBW.2 (zBs hA)
    have h4 := List.all_eq_true.1 q4 (c, id) hmA
    simp only [Bool.and_eq_true] at h4
    obtain ⟨b', hb'⟩ := zEj h4.2
    have e : p'.mem id = some (b'.out ρ (nv M id)) := by
     show zDo M ms' L K A id = _
     unfold zDo
     rw [hL]
     simp only []
     rw [hA]
     show (zAl ms' c).map _ = _
     rw [hb']
     rfl
    exact ⟨_, e, by show blk.ver <= b'.ver + nv M id; omega, fun e => by
     have e : blk.ver = b'.ver + nv M id := e
     omega⟩
   | none =>
    cases hKk : lkN (swL K) id with
    | some c =>
     have e : p'.mem id = some ⟨nv M id, .row 1 [], 0⟩ := by
      show zDo M ms' L K A id = _
      unfold zDo
      rw [hL]
      simp only []
      rw [hA]
      simp only []
      rw [hKk]
     exact ⟨_, e, by show blk.ver <= nv M id; omega, fun e => by
      have e : blk.ver = nv M id := e
      omega⟩
    | none =>
     have e : p'.mem id = some blk := by
      show zDo M ms' L K A id = _
      unfold zDo
      rw [hL]
      simp only []
      rw [hA]
      simp only []
      rw [hKk]
      exact hm
     have e2 : p'.μ id = μ id := by
      show (match lkN (swL L) id with | some c => μf c | none => _) = _
      rw [hL]
      simp only []
      rw [hA]
      simp only []
      rw [hKk]
     refine ⟨blk, e, Nat.le_refl _, fun _ => ⟨e2, rfl, fun _ g n hg hz => ?_⟩⟩
     obtain ⟨cur, e', fr, z1, z2⟩ := hz
     exact ⟨cur, e', fr, by rw [hold g (F1 id blk g hm hg) (Fu id blk g hm hg (swn hL hKk))]; exact z1, z2⟩
 refine ⟨μ', ⟨⟨h2.bel.os.trans h1.bel.os, h2.bel.tape.trans h1.bel.tape, h2.bel.output.trans h1.bel.output, Nat.le_trans h1.bel.size h2.bel.size, fun k hk hx => ?_⟩, fun id blk hbk => ?_⟩, hK, hCn, hRn⟩
 ·rw [hold k (Nat.lt_of_lt_of_le hk h1.bel.size) fun q => (exO k q).1.elim (fun z => Nat.not_lt.2 z hk) hx]
  exact h1.bel.block k hk hx
 ·rcases back id blk hbk with ⟨c, b, f1, f2, f3, f4⟩ | ⟨f1, f4⟩ | ⟨f1, f2, f3⟩
  ·have h := h2.blk c b f1
   have hcl : blk.cells = b.cells.map (D0.rn ρ) := by rw [f4]; exact Body.rn_cells _ _
   have hok : blk.body.ok ↔ b.body.ok := by rw [f4]; exact Body.rn_ok
   have hokN : blk.body.okN ↔ b.body.okN := by rw [f4]; exact Body.rn_okN
   have hobj : ∀ cur e lo hi, blk.body.obj cur e lo hi = b.body.obj cur e lo hi := fun cur e lo hi => by rw [f4]; exact Body.rn_obj _ _ _ _ _ _
   have hpb : blk.pub = b.pub := by rw [f4]; rfl
   unfold zAP at h ⊢
   rw [show p'.μ id = μf c from f3]
   cases hg : μf c with
   | none =>
    simp only [hg] at h ⊢
    obtain ⟨g0, g1, g2⟩ := h
    exact ⟨by rw [hcl, g0]; rfl, hpb.trans g1, hokN.2 g2⟩
   | some g =>
    simp only [hg] at h ⊢
    obtain ⟨g0, g1, g2, g3, cur, e, lo, hi, g4, g5, g6, g7⟩ := h
    refine ⟨hok.2 g0, hXo g g1, fun id' blk' m1 m2 => ?_, by rw [hpb, hcl, List.length_map]; exact g3, cur, e, lo, hi, by rw [hobj]; exact g4, g5, by rw [hcl, List.length_map]; exact g6, fun j x hx => ?_⟩
    ·have m2 : p'.μ id' = some g := m2
     rcases back id' blk' m1 with ⟨c', b', e1, e2, e3, e4⟩ | ⟨e1, _⟩ | ⟨e1, e2, e3⟩
     ·rw [e3] at m2
      obtain rfl := g2 c' b' e1 m2
      rw [<-e2, <-f2]
     ·rw [e1] at m2; cases m2
     ·rw [e2] at m2
      exact absurd g1 (hnot g (F1 id' blk' g e1 m2) (Fu id' blk' g e1 m2 e3))
    ·rw [hcl, List.getElem?_map, Option.map_eq_some_iff] at hx
     obtain ⟨x0, hx, rfl⟩ := hx
     obtain ⟨u, u1, u2⟩ := g7 j x0 hx
     exact ⟨u, u1, zKQ hCn hRn u2⟩
  ·unfold zAP
   rw [show p'.μ id = none from f1, f4]
   exact ⟨rfl, rfl, Nat.one_pos, fun cs h => nomatch h⟩
  ·have h := h1.blk id blk f1
   unfold zAP at h ⊢
   rw [show p'.μ id = μ id from f2]
   cases hg : μ id with
   | none => simp only [hg] at h ⊢; exact h
   | some g =>
    simp only [hg] at h ⊢
    obtain ⟨g0, g1, g2, g3, cur, e, lo, hi, g4, g5, g6, g7⟩ := h
    have hx := Fu id blk g f1 hg f3
    have hl := F1 id blk g f1 hg
    refine ⟨g0, g1, fun id' blk' m1 m2 => ?_, g3, cur, e, lo, hi, by rw [hold g hl hx]; exact g4, g5, g6, fun j x hx => ?_⟩
    ·have m2 : p'.μ id' = some g := m2
     rcases back id' blk' m1 with ⟨c', b', e1, e2, e3, e4⟩ | ⟨e1, _⟩ | ⟨e1, e2, e3⟩
     ·rw [e3] at m2
      exact absurd (F2 c' b' g e1 m2) (hnot g hl hx)
     ·rw [e1] at m2; cases m2
     ·rw [e2] at m2
      exact g2 id' blk' e1 m2
    ·obtain ⟨u, u1, u2⟩ := g7 j x hx
     exact ⟨u, u1, u2.kept hK⟩
inductive ArgsH (m : Mem) (ρ : Rn) (dom : Nat -> Bool) : List D -> List D -> zBa -> Prop
 | nil : ArgsH m ρ dom [] [] []
 | lent {d a : D} {ds az : List D} {us : zBa} (h0 : d = a.rn ρ) (h1 : zVc a = true) (h2 : zTn dom (zCO a) = true) (k : ArgsH m ρ dom ds az us) : ArgsH m ρ dom (d :: ds) (a :: az) us
 | data {d x : D} {ds az : List D} {u us : zBa} (h : zF7 m d = some (x, u)) (k : ArgsH m ρ dom ds az us) : ArgsH m ρ dom (d :: ds) (x :: az) (u ++ us)
theorem zGr {m : Mem} {ρ : Rn} {dom : Nat -> Bool} {ds az : List D} {us : zBa} (h : ArgsH m ρ dom ds az us) : zJa m us := by
 induction h with
 | nil => exact fun u hu => nomatch hu
 | lent _ _ _ _ ih => exact ih
 | data h _ ih =>
  intro v hv
  rcases List.mem_append.1 hv with hv | hv
  ·exact zMB h v hv
  ·exact ih v hv
theorem zCZ {m m' : Mem} {μ : Nat -> Option Nat} {w : World} {ρ : Rn} {dom : Nat -> Bool} {pc : Rho} {C' : Nat -> Nat -> Value -> Prop} (hR : RM X ⟨m', μ⟩ w) (hC : ∀ b o u, CW X ⟨m', μ⟩ w b o u -> C' b o u) (hInv : zLw ρ dom pc ⟨m', μ⟩) {ds az : List D} {us : zBa} (h : ArgsH m ρ dom ds az us) : ∀ {vs : List Value}, (ds.length = vs.length /\ ∀ (i : Nat) d v, ds[i]? = some d -> vs[i]? = some v -> zAy ⟨m', μ⟩ (CW X ⟨m', μ⟩ w) w d v) -> (∀ u ∈ us, m' u.1 = some u.2) -> zMQ pc C' w az vs := by
 induction h with
 | nil => intro vs hr _; exact ⟨hr.1, fun i d v hd => nomatch hd⟩
 | lent h0 h1 h2 _ ih =>
  subst h0
  intro vs hr hu
  cases vs with
  | nil => have := hr.1; simp at this
  | cons v vs =>
   have ih := ih (vs := vs) ⟨by simpa using hr.1, fun i d v hd hv => hr.2 (i + 1) d v (by simpa using hd) (by simpa using hv)⟩ hu
   have h0 := zSL hC hInv h1 (zLn h2) (hr.2 0 _ v rfl rfl)
   refine ⟨by simp [ih.1], fun i y u hy hu => ?_⟩
   cases i with
   | zero => simp at hy hu; subst hy; subst hu; exact h0
   | succ i => exact ih.2 i y u (by simpa using hy) (by simpa using hu)
 | data h _ ih =>
  intro vs hr hu
  cases vs with
  | nil => have := hr.1; simp at this
  | cons v vs =>
   have ih := ih (vs := vs) ⟨by simpa using hr.1, fun i d v hd hv => hr.2 (i + 1) d v (by simpa using hd) (by simpa using hv)⟩ (fun u hu' => hu u (by simp [hu']))
   have h0 := (zKf hR (hr.2 0 _ v rfl rfl) h (fun u hu' => hu u (by simp [hu']))).kept (zCC (p := pc) hC)
   refine ⟨by simp [ih.1], fun i y u hy hu => ?_⟩
   cases i with
   | zero => simp at hy hu; subst hy; subst hu; exact h0
   | succ i => exact ih.2 i y u (by simpa using hy) (by simpa using hu)
def zC4 (m : Mem) : List (Nat × Nat × Nat) -> Bool
 | [] => true
 | c :: r => (match m c.1 with | some b => Nat.beq b.ver c.2.1 | none => false) && zC4 m r
theorem zHa {m : Mem} : ∀ {l : List (Nat × Nat × Nat)} {c}, zC4 m l = true -> c ∈ l -> ∃ b, m c.1 = some b /\ b.ver = c.2.1
 | y :: r, c, h, hm => by
  rw [zC4, Bool.and_eq_true] at h
  rcases List.mem_cons.1 hm with rfl | hm
  ·have h1 := h.1
   split at h1
   ·rename_i b hb; exact ⟨b, hb, Nat.eq_of_beq_eq_true h1⟩
   ·cases h1
  ·exact zHa h.2 hm
theorem zFm {X : Ctx} {m : Mem} {μ : Nat -> Option Nat} {w : World} : ∀ {cs : List (Nat × Nat × Nat)} {us : List Value}, zC4 m cs = true -> cs.length = us.length -> (∀ (i : Nat) c u, cs[i]? = some c -> us[i]? = some u -> zKv ⟨m, μ⟩ c.1 c.2.1 fun g => u = .pointer (some ⟨g, c.2.2, none⟩)) ->
  (zET cs).length = us.length /\ ∀ (i : Nat) d u, (zET cs)[i]? = some d -> us[i]? = some u -> zAy ⟨m, μ⟩ (CW X ⟨m, μ⟩ w) w d u
 | [], us, _, h, _ => ⟨h, fun i d u hd => nomatch hd⟩
 | c :: cs, [], _, h, _ => by cases h
 | c :: cs, u :: us, h0, h1, h2 => by
  have h0' := h0
  rw [zC4, Bool.and_eq_true] at h0
  obtain ⟨k1, k2⟩ := zFm (X := X) (w := w) h0.2 (by simpa using h1) (fun i c u hc hu => h2 (i + 1) c u (by simpa using hc) (by simpa using hu))
  refine ⟨by simp [zET, k1], fun i d v hd hv => ?_⟩
  cases i with
  | zero =>
   simp [zET] at hd hv
   subst hd
   subst hv
   have hlv := h2 0 c u rfl rfl
   refine ⟨?_, hlv⟩
   obtain ⟨b, e1, e2⟩ := zHa h0' (List.mem_cons_self ..)
   obtain ⟨blk, q1, q2, q3⟩ := hlv
   have q1 : m c.1 = some blk := q1
   rw [e1] at q1
   cases q1
   obtain ⟨g, _, rfl⟩ := q3 e2.symm
   rfl
  | succ i => exact k2 i d v (by simpa [zET] using hd) (by simpa using hv)
def zF1 (tm : Nat -> D) (dst : Option Tmp) (d : D) : Nat -> D := match dst with | some t => upd tm t d | none => tm
theorem zJK {gs : List (Nat × List E)} {ops : Array Oper} {s : St} {o : Oper} {fo : Operand} {f : Nat} {caps : List (Nat × Nat × Nat)} {args : Array Operand} {ts : Array TypeId} (L K A : List (Nat × Nat)) (hop : o.op = .call ⟨.value fo, args, ts⟩) (hgd : zBT ops s o = .free) (hfo : (s.ev fo).strip = .one (.clo f caps)) (hcap : zC4 s.mem caps = true) {az : List D} {us : zBa} {r : D} {ms ms' : List (Nat × Blk)}
  (has : ArgsH s.mem (zBN (zBd s.mem us) (L ++ K)) (fun c => isS (zAl ms c)) ((args.toList.map fun x => (s.ev x).strip) ++ zET caps) az us) (hn : ∀ p ∈ zAR s (fo :: args.toList), p) (hgl : ∀ x ∈ gs, s.tm (1000000 + x.1) = .one (.eptr x.2)) (hfn : FnH P f gs ms az r ms')
  (hids : zCT ms ms' L K A = true) (hin : zHj (zBd s.mem us) ms (zBN (zBd s.mem us) (L ++ K)) (L ++ K)) (hsh : zJe ms ms' L) (hd : zB0 X.nt o.dst = true) : OpT P X ops o s ⟨zF1 s.tm o.dst (r.rn (zBu (zBd s.mem us) L A)), zDo (zBd s.mem us) ms' L K A⟩ := by
 intro Q a w ⟨μ, hM, hsz, hdf, hr⟩
 rw [if_pos (zCa hgd a)]
 obtain ⟨⟨fn, c, k1, k2, k34⟩, hfn⟩ := hfn
 obtain ⟨k3, k4⟩ := Bool.or_eq_false_iff.1 k34
 obtain ⟨r1, r2, r3, r4⟩ := RM.pubs us s.mem hM (zGr has)
 have hf := zAA (zBn hr fo) (zAC hn fo (List.mem_cons_self ..))
 rw [hfo] at hf
 obtain ⟨vs0, hfv, hl0, hcp⟩ := hf
 rw [zCG k4] at hfv
 obtain ⟨z1, z2⟩ := zFm (X := X) (w := w) hcap hl0 hcp
 obtain ⟨hF, hCin, hRc, hInv⟩ := RM.lend r1 hids hin
 let I : Nat -> Nat -> Prop := fun b o => (¬ X.own b -> X.I b o) /\ (X.own b -> ∀ id blk, zBd s.mem us id = some blk -> μ id = some b -> o < blk.pub)
 let μc : Nat -> Option Nat := fun c => match lkN (L ++ K) c with | some i => μ i | none => none
 have hrep := zCZ (vs := (args.map a.eval).toList ++ vs0) r1 hCin hInv has ⟨by simp [z1], fun i d v hd hv => by
  by_cases hi : i < args.size
  ·rw [List.getElem?_append_left (by simpa using hi)] at hd hv
   simp only [List.getElem?_map, Array.toList_map, Option.map_eq_some_iff] at hd hv
   obtain ⟨x, hx, rfl⟩ := hd
   obtain ⟨y, hy, rfl⟩ := hv
   rw [hx] at hy
   cases hy
   exact (zAA (zBn hr x) (zAC hn x (List.mem_cons_of_mem _ (List.mem_of_getElem? hx)))).kept r2
  ·rw [List.getElem?_append_right (by simpa using hi)] at hd hv
   simp only [List.length_map, Array.length_toList, Array.toList_map] at hd hv
   exact (z2 _ d v hd hv).kept r2⟩ r3
 have hcall : (execOp a.eval o).run P w = .ok (.enter f (args.map a.eval ++ vs0.toArray)) w := by
  have hb : fn.body.isNone = false := by rw [k2]; rfl
  have hne : ¬ (fn.name = "runtime.NumGoroutine") := by simpa using k3
  simp [execOp, hop, resolve, hfv, Deferred.ofValue, invoke, callFunc, k1, hne, k2]
 unfold Oper.wp
 rw [hcall, Oper.upon_enter]
 have hl : (args.map a.eval ++ vs0.toArray).toList = (args.map a.eval).toList ++ vs0 := by simp
 refine (hfn w (args.map a.eval ++ vs0.toArray) I μc hRc (fun x hx => by
  have h1 := hr (1000000 + x.1)
  rw [hgl x hx, zBH] at h1
  exact zCx hCin (h1.kept r2)) (by rw [hl]; exact hrep)).mono ?_
 rintro e w' ⟨v, rfl, μf, hMf, hkeep, hv⟩
 obtain ⟨μ', t1, t2, t3, t4⟩ := RM.back r1 hids hin hsh rfl rfl hMf hkeep
 have hv' := zOg t3 t4 hv
 refine ⟨μ', t1, by cases o.dst <;> simp [Act.put, hsz], by cases o.dst <;> exact hdf, ?_⟩
 have := zBF (dst := o.dst) hr (r2.trans t2) hv' hsz hd []
 intro t
 have h := this t
 have e : (s.app o.dst (r.rn (zBu (zBd s.mem us) L A)) []).tm t = zF1 s.tm o.dst (r.rn (zBu (zBd s.mem us) L A)) t := by
  unfold St.app zF1
  cases o.dst <;> rfl
 rw [e] at h
 exact h
theorem zA9 (L K A : List (Nat × Nat)) {gs : List (Nat × List E)} {nt : Nat} {ops : Array Oper} {o : Oper} {rest : List Oper} {tm : Nat -> D} {m : Mem} {fo : Operand} {f : Nat} {caps : List (Nat × Nat × Nat)} {args : Array Operand} {ts : Array TypeId} {az : List D} {us : zBa} {r : D} {ms ms' : List (Nat × Blk)} {s'' : St} (hop : o.op = .call ⟨.value fo, args, ts⟩) (hgd : zBT ops ⟨tm, m⟩ o = .free) (hfo : ((⟨tm, m⟩ : St).ev fo).strip = .one (.clo f caps)) (hcap : zC4 m caps = true)
  (hfn : FnH P f gs ms az r ms') (has : ArgsH m (zBN m (L ++ K)) (fun c => isS (zAl ms c)) ((args.toList.map fun x => ((⟨tm, m⟩ : St).ev x).strip) ++ zET caps) az us) (hver : ∀ i, zA7 (zDH m us) i = zA7 m i) (hn : zAR ⟨tm, m⟩ (fo :: args.toList) = []) (hd : zB0 nt o.dst = true) (hnt : X.nt = nt) (hgl : gs.map (fun x => tm (1000000 + x.1)) = gs.map fun x => .one (.eptr x.2))
  (hids : zCT ms ms' L K A = true) (hin : zHj (zDH m us) ms (zBN m (L ++ K)) (L ++ K)) (hsh : zJe ms ms' L) (k : Lex P X ops rest ⟨zF1 tm o.dst (r.rn (zBu (zDH m us) L A)), zDo (zDH m us) ms' L K A⟩ s'') : Lex P X ops (o :: rest) ⟨tm, m⟩ s'' := by
 have e : zBN m (L ++ K) = zBN (zDH m us) (L ++ K) := by
  funext c
  unfold zBN
  split
  ·rw [hver]
  ·rfl
 rw [e] at has hin
 rw [zB9] at has hin k
 exact .cons (zJK (s := ⟨tm, m⟩) L K A hop hgd hfo hcap has (fun p hp => by rw [hn] at hp; cases hp) (zB4 hgl) hfn hids hin hsh (by rw [hnt]; exact hd)) k
end
section
variable {P : Program} {X : Ctx}
theorem zOt {ops : Array Oper} {s : St} {o : Oper} {q : Prop} {r : D} (hgd : zBT ops s o = .iff q) (hd : zB0 X.nt o.dst = true) (h : q -> OpT P X ops { o with guard := none } s (s.app o.dst r [])) : OpT P X ops o s (s.app o.dst (.gd q r) []) := by
 intro Q a w hR0
 have hR0' := hR0
 obtain ⟨μ, hM, hsz, hdf, hr⟩ := hR0
 have hiff := zMq hgd hr
 by_cases hq : q
 ·rw [if_pos (hiff.2 hq)]
  have := h hq Q a w hR0'
  rw [if_pos (by simp [Region.wanted])] at this
  have hm : ∀ a' w', R X (s.app o.dst r []) a' w' -> R X (s.app o.dst (.gd q r) []) a' w' := by
   rintro a' w' ⟨μ', hM', hsz', hdf', hr'⟩
   refine ⟨μ', hM', hsz', hdf', fun t => ?_⟩
   have := hr' t
   cases hdst : o.dst with
   | none => rw [hdst] at this; exact this
   | some t' =>
    rw [hdst] at this
    by_cases ht : t = t'
    ·subst ht
     simp only [St.app, zAn] at this ⊢
     exact ⟨fun _ => this, fun hn => absurd hq hn⟩
    ·simp only [St.app, zAB _ _ ht] at this ⊢
     exact this
  exact Oper.wp_mono (P := P) (Q := Q) hm this
 ·rw [if_neg (fun hw => hq (hiff.1 hw))]
  exact ⟨μ, hM, by cases o.dst <;> simp [Act.put, hsz], by cases o.dst <;> exact hdf, zBF (d := .gd q r) (v := undef) hr Kept.rfl' ⟨fun h => absurd h hq, fun _ => rfl⟩ hsz hd []⟩
def zSz (m : Mem) : zBa -> Prop
 | [] => True
 | [(i, b)] => m i = some b
 | (i, b) :: r => m i = some b /\ zSz m r
theorem zL9 : ∀ {us : zBa} {m : Mem}, zSz m us -> zBd m us = m
 | [], m, _ => rfl
 | [(i, b)], m, h => by
  show upd m i (some b) = m
  funext j
  by_cases hj : j = i
  ·subst hj; rw [zAn]; exact (show m j = some b from h).symm
  ·rw [zAB _ _ hj]
 | (i, b) :: u :: r, m, h => by
  have e : upd m i (some b) = m := by
   funext j
   by_cases hj : j = i
   ·subst hj; rw [zAn]; exact h.1.symm
   ·rw [zAB _ _ hj]
  show zBd (upd m i (some b)) (u :: r) = m
  rw [e]
  exact zL9 h.2
theorem zFY {nt : Nat} {ops : Array Oper} {o : Oper} {rest : List Oper} {tm : Nat -> D} {m : Mem} {fo : Operand} {f t : Nat} {caps : List (Nat × Nat × Nat)} {args : Array Operand} {ts : Array TypeId} {q : Prop} {az : List D} {us : zBa} {r : D} {s'' : St} (hop : o.op = .call ⟨.value fo, args, ts⟩) (hgd : zBT ops ⟨tm, m⟩ o = .iff q) (hfo : ((⟨tm, m⟩ : St).ev fo).strip = .one (.clo f caps))
  (has : zBi m ((args.toList.map fun x => ((⟨tm, m⟩ : St).ev x).strip) ++ zET caps) = some (az, us)) (hus : zSz m us) (hd : o.dst = some t) (hlt : Nat.blt t nt = true) (hnt : X.nt = nt) {ns : List Prop} (hns : zAR ⟨tm, m⟩ (fo :: args.toList) = ns) (hn : q -> zBh ns) (hfn : q -> FnD P f az r) (k : Lex P X ops rest ⟨upd tm t (.gd q r), m⟩ s'') : Lex P X ops (o :: rest) ⟨tm, m⟩ s'' := by
 have h := zOt (P := P) (X := X) (r := r) hgd (by rw [hd, hnt]; exact hlt) fun hq => by
  have h := zGG (P := P) (X := X) (ops := ops) (s := ⟨tm, m⟩) (o := { o with guard := none }) (us := us) hop (by unfold zBT; rfl) hfo has (fun p hp => by rw [hns] at hp; exact zEu (hn hq) p hp) (hfn hq) (by show zB0 X.nt o.dst = true; rw [hd, hnt]; exact hlt)
  have e : (⟨tm, m⟩ : St).app o.dst r us = (⟨tm, m⟩ : St).app o.dst r [] := by
   show (⟨_, zBd m us⟩ : St) = ⟨_, m⟩
   rw [zL9 hus]
  rw [<-e]
  exact h
 refine .cons h ?_
 rw [hd]
 exact k
end
def zF2 (m : Mem) (ms' : List (Nat × Blk)) (L A : List (Nat × Nat)) : List (Nat × Nat) -> zBa
 | [] => []
 | y :: r => match zAl ms' y.1 with
  | some b => (y.2, b.out (zBu m L A) (zA7 m y.2)) :: zF2 m ms' L A r
  | none => zF2 m ms' L A r
def zF8 (m : Mem) (ms' : List (Nat × Blk)) (L A : List (Nat × Nat)) : List (Nat × Nat) -> zBa
 | [] => []
 | y :: r => match zAl ms' y.1 with
  | some b => (y.2, b.out (zBu m L A) (nv m y.2)) :: zF8 m ms' L A r
  | none => zF8 m ms' L A r
def zJ0 (m : Mem) : List (Nat × Nat) -> zBa
 | [] => []
 | y :: r => (y.2, ⟨nv m y.2, .row 1 [], 0⟩) :: zJ0 m r
def zEv (m : Mem) (ms' : List (Nat × Blk)) (L K A : List (Nat × Nat)) : zBa := zJ0 m K ++ (zF8 m ms' L A A ++ zF2 m ms' L A L)
def zKt (L K A : List (Nat × Nat)) : List Nat := (K ++ (A ++ L)).map (·.2)
theorem zDm {m : Mem} {ms' : List (Nat × Blk)} {L A : List (Nat × Nat)} : ∀ {l : List (Nat × Nat)} {u : Nat × Blk}, u ∈ zF2 m ms' L A l -> ∃ y ∈ l, ∃ b, zAl ms' y.1 = some b /\ u = (y.2, b.out (zBu m L A) (zA7 m y.2))
 | y :: r, u, h => by
  rw [zF2] at h
  split at h
  ·rename_i b hb
   rcases List.mem_cons.1 h with rfl | h
   ·exact ⟨y, List.mem_cons_self .., b, hb, rfl⟩
   ·obtain ⟨z, h1, h2⟩ := zDm h
    exact ⟨z, List.mem_cons_of_mem _ h1, h2⟩
  ·obtain ⟨z, h1, h2⟩ := zDm h
   exact ⟨z, List.mem_cons_of_mem _ h1, h2⟩
theorem zGQ {m : Mem} {ms' : List (Nat × Blk)} {L A : List (Nat × Nat)} : ∀ {l : List (Nat × Nat)} {y : Nat × Nat} {b : Blk}, y ∈ l -> zAl ms' y.1 = some b -> (y.2, b.out (zBu m L A) (zA7 m y.2)) ∈ zF2 m ms' L A l
 | z :: r, y, b, h, hb => by
  rw [zF2]
  rcases List.mem_cons.1 h with rfl | h
  ·rw [hb]; exact List.mem_cons_self ..
  ·split
   ·exact List.mem_cons_of_mem _ (zGQ h hb)
   ·exact zGQ h hb
theorem zDn {m : Mem} {ms' : List (Nat × Blk)} {L A : List (Nat × Nat)} : ∀ {l : List (Nat × Nat)} {u : Nat × Blk}, u ∈ zF8 m ms' L A l -> ∃ y ∈ l, ∃ b, zAl ms' y.1 = some b /\ u = (y.2, b.out (zBu m L A) (nv m y.2))
 | y :: r, u, h => by
  rw [zF8] at h
  split at h
  ·rename_i b hb
   rcases List.mem_cons.1 h with rfl | h
   ·exact ⟨y, List.mem_cons_self .., b, hb, rfl⟩
   ·obtain ⟨z, h1, h2⟩ := zDn h
    exact ⟨z, List.mem_cons_of_mem _ h1, h2⟩
  ·obtain ⟨z, h1, h2⟩ := zDn h
   exact ⟨z, List.mem_cons_of_mem _ h1, h2⟩
theorem zG7 {m : Mem} {ms' : List (Nat × Blk)} {L A : List (Nat × Nat)} : ∀ {l : List (Nat × Nat)} {y : Nat × Nat} {b : Blk}, y ∈ l -> zAl ms' y.1 = some b -> (y.2, b.out (zBu m L A) (nv m y.2)) ∈ zF8 m ms' L A l
 | z :: r, y, b, h, hb => by
  rw [zF8]
  rcases List.mem_cons.1 h with rfl | h
  ·rw [hb]; exact List.mem_cons_self ..
  ·split
   ·exact List.mem_cons_of_mem _ (zG7 h hb)
   ·exact zG7 h hb
theorem zD1 {m : Mem} : ∀ {l : List (Nat × Nat)} {u : Nat × Blk}, u ∈ zJ0 m l -> ∃ y ∈ l, u = (y.2, ⟨nv m y.2, .row 1 [], 0⟩)
 | y :: r, u, h => by
  rcases List.mem_cons.1 h with rfl | h
  ·exact ⟨y, List.mem_cons_self .., rfl⟩
  ·obtain ⟨z, h1, h2⟩ := zD1 h
   exact ⟨z, List.mem_cons_of_mem _ h1, h2⟩
theorem zJZ {m : Mem} : ∀ {l : List (Nat × Nat)} {y : Nat × Nat}, y ∈ l -> (y.2, (⟨nv m y.2, .row 1 [], 0⟩ : Blk)) ∈ zJ0 m l
 | z :: r, y, h => by
  rcases List.mem_cons.1 h with rfl | h
  ·exact List.mem_cons_self ..
  ·exact List.mem_cons_of_mem _ (zJZ h)
theorem zI7 {id : Nat} {b : Blk} : ∀ (us : zBa) (m : Mem), (∀ u ∈ us, u.1 = id -> u.2 = b) -> (∃ u ∈ us, u.1 = id) -> zBd m us id = some b
 | [], _, _, h => by obtain ⟨u, hu, _⟩ := h; cases hu
 | u :: us, m, h, hex => by
  rw [zC0]
  by_cases hk : ∃ v ∈ us, v.1 = id
  ·exact zI7 us _ (fun v hv => h v (List.mem_cons_of_mem _ hv)) hk
  ·rw [zAM us _ id fun v hv e => hk ⟨v, hv, e⟩]
   obtain ⟨v, hv, e⟩ := hex
   rcases List.mem_cons.1 hv with rfl | hv
   ·rw [e, zAn, h v (List.mem_cons_self ..) e]
   ·exact absurd ⟨v, hv, e⟩ hk
theorem zIs {m : Mem} {ms ms' : List (Nat × Blk)} {L K A : List (Nat × Nat)} (hids : zCT ms ms' L K A = true) : zDo m ms' L K A = zBd m (zEv m ms' L K A) := by
 unfold zCT at hids
 simp only [Bool.and_eq_true] at hids
 obtain ⟨q1, q2, q3, q4, ⟨⟨⟨⟨n1, n2⟩, n3⟩, n4⟩, n5⟩, n6⟩ := hids
 have hL : ∀ {c id}, (c, id) ∈ L -> ∃ b, zAl ms' c = some b := fun {c id} h => by
  have := List.all_eq_true.1 q2 _ h
  dsimp only at this
  split at this
  ·rename_i b' _ hb'
   exact ⟨_, hb'⟩
  ·cases this
 have hA : ∀ {c id}, (c, id) ∈ A -> ∃ b, zAl ms' c = some b := fun {c id} h => by
  have := List.all_eq_true.1 q4 _ h
  simp only [Bool.and_eq_true] at this
  exact zEj this.2
 have noL : ∀ {id}, lkN (swL L) id = none -> ∀ u ∈ zF2 m ms' L A L, u.1 ≠ id := fun {id} h u hu e => by
  obtain ⟨y, hy, b, hb, rfl⟩ := zDm hu
  obtain ⟨k, hk⟩ := zDD (zBW.1 (show (y.1, y.2) ∈ L from hy))
  have e : y.2 = id := e
  rw [e, h] at hk
  cases hk
 have noA : ∀ {id}, lkN (swL A) id = none -> ∀ u ∈ zF8 m ms' L A A, u.1 ≠ id := fun {id} h u hu e => by
  obtain ⟨y, hy, b, hb, rfl⟩ := zDn hu
  obtain ⟨k, hk⟩ := zDD (zBW.1 (show (y.1, y.2) ∈ A from hy))
  have e : y.2 = id := e
  rw [e, h] at hk
  cases hk
 funext id
 unfold zDo zEv
 rw [zDG, zDG]
 cases h1 : lkN (swL L) id with
 | some c =>
  have hc := zBW.2 (zBs h1)
  obtain ⟨b, hb⟩ := hL hc
  dsimp only
  rw [hb]
  refine (zI7 _ _ (fun u hu e => ?_) ⟨_, zGQ hc hb, rfl⟩).symm
  obtain ⟨y, hy, b', hb', rfl⟩ := zDm hu
  have e : y.2 = id := e
  subst e
  have := zCi n4 (zBW.1 (show (y.1, y.2) ∈ L from hy))
  rw [h1] at this
  cases this
  rw [hb] at hb'
  cases hb'
  rfl
 | none =>
  rw [zAM _ _ id (noL h1)]
  cases h2 : lkN (swL A) id with
  | some c =>
   have hc := zBW.2 (zBs h2)
   obtain ⟨b, hb⟩ := hA hc
   dsimp only
   rw [hb]
   refine (zI7 _ _ (fun u hu e => ?_) ⟨_, zG7 hc hb, rfl⟩).symm
   obtain ⟨y, hy, b', hb', rfl⟩ := zDn hu
   have e : y.2 = id := e
   subst e
   have := zCi n6 (zBW.1 (show (y.1, y.2) ∈ A from hy))
   rw [h2] at this
   cases this
   rw [hb] at hb'
   cases hb'
   rfl
  | none =>
   rw [zAM _ _ id (noA h2)]
   cases h3 : lkN (swL K) id with
   | some c =>
    have hc := zBW.2 (zBs h3)
    refine (zI7 _ _ (fun u hu e => ?_) ⟨_, zJZ hc, rfl⟩).symm
    obtain ⟨y, hy, rfl⟩ := zD1 hu
    have e : y.2 = id := e
    subst e
    rfl
   | none =>
    refine (zAM _ _ id fun u hu e => ?_).symm
    obtain ⟨y, hy, rfl⟩ := zD1 hu
    have e : y.2 = id := e
    obtain ⟨k, hk⟩ := zDD (zBW.1 (show (y.1, y.2) ∈ K from hy))
    rw [e, h3] at hk
    cases hk
section
variable {m m' : Mem} {ms ms' : List (Nat × Blk)} {L K A : List (Nat × Nat)}
def AgL (m m' : Mem) (l : List (Nat × Nat)) : Prop := ∀ y ∈ l, m y.2 = m' y.2
theorem zIa {l : List (Nat × Nat)} (h : AgL m m' l) {y : Nat × Nat} (hy : y ∈ l) : zA7 m y.2 = zA7 m' y.2 := by unfold zA7; rw [h y hy]
theorem zSx {l : List (Nat × Nat)} (h : AgL m m' l) {y : Nat × Nat} (hy : y ∈ l) : nv m y.2 = nv m' y.2 := by unfold nv; rw [h y hy]
theorem zOh {l : List (Nat × Nat)} (h : AgL m m' l) : zBN m l = zBN m' l := by
 funext c
 unfold zBN
 split
 ·rename_i i hi
  rw [show zA7 m i = zA7 m' i from zIa h (zBs hi)]
 ·rfl
theorem zLV (h1 : AgL m m' L) (h2 : AgL m m' A) : zBu m L A = zBu m' L A := by
 funext c
 unfold zBu
 split
 ·rename_i i hi
  rw [show zA7 m i = zA7 m' i from zIa h1 (zBs hi)]
 ·split
  ·rename_i i hi
   rw [show nv m i = nv m' i from zSx h2 (zBs hi)]
  ·rfl
theorem zIv (hr : zBu m L A = zBu m' L A) : ∀ {l : List (Nat × Nat)}, AgL m m' l -> zF2 m ms' L A l = zF2 m' ms' L A l
 | [], _ => rfl
 | y :: r, h => by rw [zF2, zF2, hr, zIa h (List.mem_cons_self ..), zIv hr (l := r) fun z hz => h z (List.mem_cons_of_mem _ hz)]
theorem zI0 (hr : zBu m L A = zBu m' L A) : ∀ {l : List (Nat × Nat)}, AgL m m' l -> zF8 m ms' L A l = zF8 m' ms' L A l
 | [], _ => rfl
 | y :: r, h => by rw [zF8, zF8, hr, zSx h (List.mem_cons_self ..), zI0 hr (l := r) fun z hz => h z (List.mem_cons_of_mem _ hz)]
theorem zIE : ∀ {l : List (Nat × Nat)}, AgL m m' l -> zJ0 m l = zJ0 m' l
 | [], _ => rfl
 | y :: r, h => by rw [zJ0, zJ0, zSx h (List.mem_cons_self ..), zIE (l := r) fun z hz => h z (List.mem_cons_of_mem _ hz)]
theorem zK8 {ρ : Rn} : ∀ {l : List (Nat × Nat)}, AgL m m' l -> zHj m ms ρ l -> zHj m' ms ρ l
 | [], _, _ => trivial
 | y :: r, h, k => by
  refine ⟨?_, zK8 (fun z hz => h z (List.mem_cons_of_mem _ hz)) k.2⟩
  have h0 := h y (List.mem_cons_self ..)
  rw [<-h0, show zA7 m' y.2 = zA7 m y.2 by unfold zA7; rw [h0]]
  exact k.1
theorem zMH {ρ : Rn} {dom : Nat -> Bool} {ds az : List D} {us : zBa} (h : ArgsH m ρ dom ds az us) : (∀ d ∈ ds, Alk m m' d) -> ArgsH m' ρ dom ds az us := by
 induction h with
 | nil => exact fun _ => .nil
 | lent h0 h1 h2 _ ih => exact fun hd => .lent h0 h1 h2 (ih fun d hm => hd d (List.mem_cons_of_mem _ hm))
 | data h _ ih => exact fun hd => .data (by rw [<-zG6 (hd _ (List.mem_cons_self ..))]; exact h) (ih fun d hm => hd d (List.mem_cons_of_mem _ hm))
theorem zI2 : ∀ {l : List (Nat × Nat × Nat)}, (∀ c ∈ l, m c.1 = m' c.1) -> zC4 m l = true -> zC4 m' l = true
 | [], _, _ => rfl
 | c :: r, h, k => by
  rw [zC4, Bool.and_eq_true] at k
  rw [zC4, <-h c (List.mem_cons_self ..), Bool.and_eq_true]
  exact ⟨k.1, zI2 (fun c hc => h c (List.mem_cons_of_mem _ hc)) k.2⟩
end
theorem zMF {P : Program} (L K A : List (Nat × Nat)) {T : Nat -> Option TI} {gs : List (Nat × List E)} {nt : Nat} {ops : Array Oper} {o : Oper} {rest : List Oper} {tm : Nat -> D} {m : Mem} {fo : Operand} {f : Nat} {caps : List (Nat × Nat × Nat)} {args : Array Operand} {ts : Array TypeId} {az : List D} {r : D} {ms ms' : List (Nat × Blk)} {fps : List FP} {s'' : St} (hop : o.op = .call ⟨.value fo, args, ts⟩) (hgd : zBT ops ⟨tm, m⟩ o = .free) (hfo : ((⟨tm, m⟩ : St).ev fo).strip = .one (.clo f caps)) (hcap : zC4 m caps = true)
  (hfn : FnH P f gs ms az r ms') (has : ArgsH m (zBN m (L ++ K)) (fun c => isS (zAl ms c)) ((args.toList.map fun x => ((⟨tm, m⟩ : St).ev x).strip) ++ zET caps) az []) (hn : zAR ⟨tm, m⟩ (fo :: args.toList) = []) (hd : zB0 nt o.dst = true) {rd : List Nat} (hrd : (zLi (zKs ⟨tm, m⟩ o.op.operands.toList) fun rd => some rd) = some rd) (hgl : gs.map (fun x => tm (1000000 + x.1)) = gs.map fun x => .one (.eptr x.2))
  (hids : zCT ms ms' L K A = true) (hin : zHj m ms (zBN m (L ++ K)) (L ++ K)) (hsh : zJe ms ms' L) (k : LexD P T nt ops rest ⟨zF1 tm o.dst (r.rn (zBu m L A)), zDo m ms' L K A⟩ fps s'') : LexD P T nt ops (o :: rest) ⟨tm, m⟩ ((zFk o.dst :: (zKt L K A ++ rd), zKt L K A ++ upV (zKt L K A)) :: fps) s'' := by
 rw [zCV] at hrd
 cases hrd
 have hfm : fo ∈ o.op.operands := by rw [hop]; simp [Op.operands, Call.operands]
 have hargs : ∀ x ∈ args.toList, x ∈ o.op.operands := fun x hx => by
  rw [hop]; simp only [Op.operands, Call.operands]; simp at hx ⊢; exact .inr hx
 have hput : ∀ (s : St) (d : D) (us : zBa), s.app o.dst d us = ⟨zF1 s.tm o.dst d, zBd s.mem us⟩ := fun s d us => by
  unfold St.app zF1
  cases o.dst <;> rfl
 have hU : ∀ m' : Mem, (∀ k, inB (zKt L K A) k = true -> m k = m' k) -> AgL m m' L /\ AgL m m' A /\ AgL m m' K := fun m' h => by
  refine ⟨fun y hy => h _ (zAG ?_), fun y hy => h _ (zAG ?_), fun y hy => h _ (zAG ?_)⟩
  all_goals
   unfold zKt
   refine List.mem_map.2 ⟨y, ?_, rfl⟩
   simp [hy]
 have inBapp : ∀ (a b : List Nat) (k : Nat), inB a k = true -> inB (a ++ b) k = true := fun a b k => by
  induction a with
  | nil => intro h; cases h
  | cons x a ih =>
   intro h
   simp only [List.cons_append, inB, Bool.or_eq_true] at h ⊢
   exact h.imp id ih
 have hmem : ∀ u ∈ zEv m ms' L K A, u.1 ∈ zKt L K A := fun u hu => by
  unfold zEv at hu
  unfold zKt
  rw [List.map_append, List.map_append]
  rcases List.mem_append.1 hu with hu | hu
  ·obtain ⟨y, hy, rfl⟩ := zD1 hu
   exact List.mem_append_left _ (List.mem_map_of_mem (f := (·.2)) hy)
  rcases List.mem_append.1 hu with hu | hu
  ·obtain ⟨y, hy, b, _, rfl⟩ := zDn hu
   exact List.mem_append_right _ (List.mem_append_left _ (List.mem_map_of_mem (f := (·.2)) hy))
  ·obtain ⟨y, hy, b, _, rfl⟩ := zDm hu
   exact List.mem_append_right _ (List.mem_append_right _ (List.mem_map_of_mem (f := (·.2)) hy))
 refine .cons (d := r.rn (zBu m L A)) (us := zEv m ms' L K A) ⟨.gen fun s' hS hF X hX => ?_, fun x hx k hk => ?_, zAG (List.mem_cons_self ..), fun u hu => zAG (List.mem_append_left _ (hmem u hu)), zCL hop, fun u hu => .inl (zAG (List.mem_append_right _ (zLD (hmem u hu))))⟩ ?_
 ·have hF' : ∀ k, inB (zKt L K A) k = true -> m k = s'.mem k := fun k hk => hF k (by
   simp only [inB, Bool.or_eq_true]
   exact .inr (inBapp _ _ k hk))
  obtain ⟨aL, aA, aK⟩ := hU s'.mem hF'
  have aLK : AgL m s'.mem (L ++ K) := fun y hy => (List.mem_append.1 hy).elim (aL y) (aK y)
  have hrn := zOh aLK
  have hro := zLV aL aA
  have hus : zEv m ms' L K A = zEv s'.mem ms' L K A := by
   unfold zEv
   rw [zIE aK, zI0 hro aA, zIv hro aL]
  have hfo' : (s'.ev fo).strip = .one (.clo f caps) := by rw [<-hS.ev fo hfm]; exact hfo
  have hA0 : Alk m s'.mem (.one (.clo f caps)) := hfo ▸ zC1 (hS.mem fo (zEd hop hfm))
  have hA0 : ∀ c ∈ caps, m c.1 = s'.mem c.1 := fun c hc => hA0 c.1 (by simp only [zCO, zDy]; exact List.mem_map_of_mem hc)
  rw [hput, hus, <-zIs hids, hro]
  have hev : (args.toList.map fun x => (s'.ev x).strip) = args.toList.map fun x => ((⟨tm, m⟩ : St).ev x).strip := List.map_congr_left fun x hx => by rw [hS.ev x (hargs x hx)]
  have := zJK (P := P) (X := X) (ops := ops) (s := s') (o := o) (us := []) (gs := gs) (r := r) (ms := ms) (ms' := ms') (az := az) L K A hop (by rw [<-zBL hS]; exact hgd) hfo' (zI2 hA0 hcap) (by
   rw [hev]
   show ArgsH s'.mem (zBN s'.mem (L ++ K)) _ _ _ _
   rw [<-hrn]
   refine zMH has fun d hd => ?_
   rcases List.mem_append.1 hd with hd | hd
   ·obtain ⟨x, hx, rfl⟩ := List.mem_map.1 hd
    exact zC1 (hS.mem x (zEd hop (hargs x hx)))
   ·exact zGq hA0 d hd) (by
   rw [<-zA0 (s := ⟨tm, m⟩) fun x hx => by
    rcases List.mem_cons.1 hx with rfl | hx
    ·exact hS.ev _ hfm
    ·exact hS.ev x (hargs x hx), hn]
   exact fun p hp => nomatch hp) (fun x hx => (hS.glob x.1).symm.trans (zB4 hgl x hx)) hfn hids (by
   show zHj s'.mem ms (zBN s'.mem (L ++ K)) (L ++ K)
   rw [<-hrn]
   exact zK8 aLK hin) hsh (by rw [hX]; exact hd)
  exact this
 ·refine zAG (List.mem_cons_of_mem _ (List.mem_append_right _ (zCh x (by simpa using zBR hx) k hk)))
 ·rw [hput]
  show LexD P T nt ops rest ⟨zF1 tm o.dst _, zBd m (zEv m ms' L K A)⟩ fps s''
  rw [<-zIs hids]
  exact k
def FnP {σ : Type} (P : Program) (f : Nat) (gs : List (Nat × List E)) (ms : List (Nat × Blk)) (args : List D) (ch : List PanicEntry) (mx : σ -> List (Nat × Blk)) : Prop :=
 zRc P f /\ ∀ (w : World) (vs : Array Value) (I : Nat -> Nat -> Prop) (μ : Nat -> Option Nat), RM (XH w I ⟨zAl ms, μ⟩) ⟨zAl ms, μ⟩ w ->
  (∀ x ∈ gs, zAy p0 (CW (XH w I ⟨zAl ms, μ⟩) ⟨zAl ms, μ⟩ w) w (.one (.eptr x.2)) (.pointer (some ⟨x.1, 0, none⟩))) ->
  zMQ ⟨zAl ms, μ⟩ (CW (XH w I ⟨zAl ms, μ⟩) ⟨zAl ms, μ⟩ w) w args vs.toList ->
  Calls P f vs w fun e w' => e = .panicked ch /\ ∃ x, ∃ μ' : Nat -> Option Nat, RM (XH w I ⟨zAl ms, μ⟩) ⟨zAl (mx x), μ'⟩ w' /\ (∀ id b, zAl ms id = some b -> b.isBox = true -> μ' id = μ id)
def zVi {σ : Type} (ch : List PanicEntry) (ms : List (Nat × Blk)) (mx : σ -> List (Nat × Blk)) (e : Exit) (s : St) : Prop :=
 e = .panic ch /\ ∃ x, ∀ X, Le X ⟨fun t => bif Nat.ble 900000 t then s.tm t else .any, s.mem⟩ (St.of (zFu ms) (mx x))
def zVh {σ : Type} (ch : List PanicEntry) (ms : List (Nat × Blk)) (mx : σ -> List (Nat × Blk)) (e : Exit) (s : St) : Prop :=
 e = .panic ch /\ ∀ X a w, R X ⟨fun t => bif Nat.ble 900000 t then s.tm t else .any, s.mem⟩ a w -> ∃ x, R X (St.of (zFu ms) (mx x)) a w
section
variable {P : Program} {T : Nat -> Option TI} {X : Ctx} {σ : Type}
theorem zJ2 {f : Nat} {fn : Func} {c : Code} (hf : P.funcs[f]? = some fn) (hb : fn.body = some c) (hname : (fn.name == "runtime.NumGoroutine") = false) {gs : List (Nat × List E)} {args : List D} {ch : List PanicEntry} {ms : List (Nat × Blk)} {mx : σ -> List (Nat × Blk)} (hn : args.length <= fn.ntmps)
  (hin : zOH ms = true) (hout : ∀ x, zE4 (mx x) ms = true) (h : ∀ X : Ctx, X.nt = fn.ntmps -> Tr P X c (St.startH gs ms args) (zVh ch ms mx)) (hbig : Nat.ble fn.ntmps 900000 = true := by rfl) (hlt : Nat.ble 1048576 f = false := by rfl) : FnP P f gs ms args ch mx := by
 refine ⟨⟨fn, c, hf, hb, Bool.or_eq_false_iff.2 ⟨hname, hlt⟩⟩, fun w vs I μ hM0 hgs hargs => ?_⟩
 have hlen : args.length = vs.size := by simpa using hargs.1
 let X : Ctx := ⟨w, I, fn.ntmps, Nat.le_of_ble_eq_true hbig, (XH w I ⟨zAl ms, μ⟩).ex, fun t => (μ t).getD 0, []⟩
 have hbig' := Nat.le_of_ble_eq_true hbig
 have hsl : ∀ t, 900000 <= t -> t < 1000000 -> ∀ tmps : Array Value, zAL X.xg tmps t = .pointer (some ⟨(μ t).getD 0, 0, none⟩) := fun t h1 h2 tmps => by
  unfold zAL
  have e1 : Nat.ble 1000000 t = false := by
   cases hb : Nat.ble 1000000 t with
   | false => rfl
   | true => have := Nat.le_of_ble_eq_true hb; omega
  rw [e1, Nat.ble_eq_true_of_le h1]
  rfl
 have hbox : ∀ t b, zAl ms t = some b -> b.isBox = true -> ∃ g, μ t = some g := fun t b h1 h2 => by
  obtain ⟨_, _, k3⟩ := zDC hin h1
  have h3 := hM0.blk t b h1
  cases hg : μ t with
  | some g => exact ⟨g, rfl⟩
  | none =>
   simp only [zAP, hg] at h3
   exact absurd h3.1 (zGI k3 h2).2
 refine calls_of_wp hf hb (wp_mono (h X rfl _ w ⟨μ, ⟨hM0.bel, hM0.blk⟩, by show (vs ++ Array.replicate (fn.ntmps - vs.size) undef).size = fn.ntmps; simp; omega, rfl, fun t => ?_⟩) fun e a w' ⟨s', hE, hR⟩ => ?_)
 ·show zAy _ _ w (bif Nat.ble 1000000 t then zPO gs (t - 1000000) else bif Nat.ble 900000 t then zRU ms t else zDp args t) _
  cases hbt : Nat.ble 1000000 t with
  | true =>
   have e : zAL X.xg (vs ++ Array.replicate (fn.ntmps - vs.size) undef) t = .pointer (some ⟨t - 1000000, 0, none⟩) := by
    unfold zAL
    rw [hbt]
    rfl
   rw [e, cond_true]
   exact (zFf (C := CW X ⟨zAl ms, μ⟩ w) hgs _).kept (zCC fun b o u h => h)
  | false =>
  rw [cond_false]
  have hlt : t < 1000000 := by
   rcases Nat.lt_or_ge t 1000000 with h | h
   ·exact h
   ·rw [Nat.ble_eq_true_of_le h] at hbt; cases hbt
  cases hb9 : Nat.ble 900000 t with
  | true =>
   have hle := Nat.le_of_ble_eq_true hb9
   rw [cond_true, hsl t hle hlt]
   rcases zEk (ms := ms) (t := t) with h1 | ⟨b, h1, h2, h3⟩
   ·rw [h1]; trivial
   ·rw [h3]
    obtain ⟨g, hg⟩ := hbox t b h1 h2
    exact ⟨rfl, b, h1, Nat.zero_le _, fun _ => ⟨g, hg, by rw [hg]; rfl⟩⟩
  | false =>
  rw [cond_false, zCl]
  cases hd : args[t]? with
  | none => trivial
  | some d =>
   have ht : t < vs.size := by rw [<-hlen]; exact (List.getElem?_eq_some_iff.1 hd).1
   have hv : zAL X.xg (vs ++ Array.replicate (fn.ntmps - vs.size) undef) t = vs[t] := by
    rw [zCq (by omega), Array.getD_eq_getD_getElem?, Array.getElem?_append_left ht, Array.getElem?_eq_getElem ht]
    rfl
   simp only [Option.getD_some]
   rw [hv]
   exact hargs.2 t d vs[t] hd (by simp [ht])
 ·obtain ⟨rfl, hle⟩ := hE
  obtain ⟨μ1, hM, hsz, hdf, hr⟩ := hR
  obtain ⟨x, μ', hM', _, _, hr'⟩ := hle ⟨w, I, 1, by decide, (XH w I ⟨zAl ms, μ⟩).ex, X.xg, []⟩ { a with tmps := #[undef] } w' ⟨μ1, ⟨hM.bel, hM.blk⟩, rfl, hdf, fun t => by
   show zAy _ _ _ (bif Nat.ble 900000 t then s'.tm t else .any) _
   cases h9 : Nat.ble 900000 t with
   | false => trivial
   | true =>
    have e : zAL X.xg #[undef] t = zAL X.xg a.tmps t := by
     unfold zAL
     cases Nat.ble 1000000 t with
     | true => rfl
     | false => rw [h9]; rfl
    rw [cond_true]
    show zAy _ _ _ _ (zAL X.xg #[undef] t)
    rw [e]
    exact hr t⟩
  refine ⟨hdf, rfl, x, μ', ⟨hM'.bel, hM'.blk⟩, fun id b h1 h2 => ?_⟩
  obtain ⟨q1, q2, q3⟩ := zDC hin h1
  obtain ⟨g, hg⟩ := hbox id b h1 h2
  obtain ⟨b', e1, e2, e3⟩ := zE3 (hout x) h1 h2
  have h3 := hr' id
  rw [show (St.of (zFu ms) (mx x)).tm id = zDO (zFu ms) id from rfl, zGf h1 h2] at h3
  obtain ⟨_, blk, f1, f2, f3⟩ := h3
  have f1 : zAl (mx x) id = some blk := f1
  rw [e1] at f1
  cases f1
  obtain ⟨g', g1, g2⟩ := f3 e2.symm
  have g2 : zAL X.xg #[undef] id = .pointer (some ⟨g', 0, none⟩) := g2
  rw [hsl id q1 q2, hg] at g2
  simp only [Value.pointer.injEq, Option.some.injEq, Addr.mk.injEq, Option.getD_some, and_true] at g2
  rw [hg, g2]
  exact g1
theorem zJ3 {f : Nat} {fn : Func} {c : Code} (hf : P.funcs[f]? = some fn) (hb : fn.body = some c) (hname : (fn.name == "runtime.NumGoroutine") = false) {gs : List (Nat × List E)} {args : List D} {ch : List PanicEntry} {ms : List (Nat × Blk)} {mx : σ -> List (Nat × Blk)} (hn : args.length <= fn.ntmps)
  (hin : zOH ms = true) (hout : ∀ x, zE4 (mx x) ms = true) (h : ∀ X : Ctx, X.nt = fn.ntmps -> Tr P X c (St.startH gs ms args) (zVi ch ms mx)) (hbig : Nat.ble fn.ntmps 900000 = true := by rfl) (hlt : Nat.ble 1048576 f = false := by rfl) : FnP P f gs ms args ch mx :=
 zJ2 hf hb hname hn hin hout (fun X hX => zEJ (h X hX) fun _ _ ⟨he, x, hl⟩ => ⟨he, fun X a w hR => ⟨x, hl X a w hR⟩⟩) hbig hlt
def OpP {σ : Type} (P : Program) (X : Ctx) (ops : Array Oper) (o : Oper) (ch : List PanicEntry) (s : St) (s' : σ -> St) : Prop :=
 ∀ (N : Act -> World -> Prop) (Q : Exit -> Act -> World -> Prop) (a : Act) (w : World), R X s a w -> (∀ x w', R X (s' x) a w' -> Q (.panic ch) a w') -> Region.wanted o (yielded ops a.tmps) = true /\ o.wp P a w N Q
inductive LexP {σ : Type} (P : Program) (X : Ctx) (ops : Array Oper) (ch : List PanicEntry) : List Oper -> St -> (σ -> St) -> Prop
 | pan {o : Oper} {r : List Oper} {s : St} {s1 : σ -> St} (h : OpP P X ops o ch s s1) : LexP P X ops ch (o :: r) s s1
 | cons {o : Oper} {r : List Oper} {s s1 : St} {s2 : σ -> St} (h : OpT P X ops o s s1) (k : LexP P X ops ch r s1 s2) : LexP P X ops ch (o :: r) s s2
theorem zOS {ops : Array Oper} {ch : List PanicEntry} {Q : Exit -> Act -> World -> Prop} {l : List Oper} {s : St} {s' : σ -> St} (h : LexP P X ops ch l s s') (hQ : ∀ x a w, R X (s' x) a w -> Q (.panic ch) a w) : ∀ a w, R X s a w -> wpList P ops Q l a w := by
 induction h with
 | pan h =>
  intro a w hR
  obtain ⟨h1, h2⟩ := h (wpList P ops Q _) Q a w hR (fun x w' => hQ x a w')
  unfold wpList
  rw [if_pos h1]
  exact .inl h2
 | cons h k ih =>
  intro a w hR
  have h1 := h Q a w hR
  unfold wpList
  split
  ·rename_i hw
   rw [if_pos hw] at h1
   exact .inl (Oper.wp_mono (fun a w hr => ih hQ a w hr) h1)
  ·rename_i hw
   rw [if_neg hw] at h1
   exact ih hQ _ _ h1
theorem zMU {id : Nat} {ops : Array Oper} {ch : List PanicEntry} {s : St} {s' : σ -> St} {Q : Exit -> St -> Prop} (h : LexP P X ops ch ops.toList s s') (hQ : ∀ x, Q (.panic ch) (s' x)) : Tr P X (.region id ops false) s Q :=
 fun a w hR => wp_region_list (zOS h (fun x _ _ h => ⟨s' x, hQ x, h⟩) a w hR)
theorem zQu {gs : List (Nat × List E)} {ops : Array Oper} {s : St} {o : Oper} {fo : Operand} {f : Nat} {caps : List (Nat × Nat × Nat)} {args : Array Operand} {ts : Array TypeId} (L K A : List (Nat × Nat)) (hop : o.op = .call ⟨.value fo, args, ts⟩) (hgd : zBT ops s o = .free) (hfo : (s.ev fo).strip = .one (.clo f caps)) (hcap : zC4 s.mem caps = true) {az : List D} {us : zBa} {ch : List PanicEntry} {ms : List (Nat × Blk)} {mx : σ -> List (Nat × Blk)}
  (has : ArgsH s.mem (zBN (zBd s.mem us) (L ++ K)) (fun c => isS (zAl ms c)) ((args.toList.map fun x => (s.ev x).strip) ++ zET caps) az us) (hn : ∀ p ∈ zAR s (fo :: args.toList), p) (hgl : ∀ x ∈ gs, s.tm (1000000 + x.1) = .one (.eptr x.2)) (hfn : FnP P f gs ms az ch mx)
  (hids : ∀ x, zCT ms (mx x) L K A = true) (x0 : σ) (hin : zHj (zBd s.mem us) ms (zBN (zBd s.mem us) (L ++ K)) (L ++ K)) (hsh : ∀ x, zJe ms (mx x) L) : OpP P X ops o ch s fun x => ⟨s.tm, zDo (zBd s.mem us) (mx x) L K A⟩ := by
 intro N Q a w ⟨μ, hM, hsz, hdf, hr⟩ hQ
 refine ⟨zCa hgd a, ?_⟩
 obtain ⟨⟨fn, c, k1, k2, k34⟩, hfn⟩ := hfn
 obtain ⟨k3, k4⟩ := Bool.or_eq_false_iff.1 k34
 obtain ⟨r1, r2, r3, r4⟩ := RM.pubs us s.mem hM (zGr has)
 have hf := zAA (zBn hr fo) (zAC hn fo (List.mem_cons_self ..))
 rw [hfo] at hf
 obtain ⟨vs0, hfv, hl0, hcp⟩ := hf
 rw [zCG k4] at hfv
 obtain ⟨z1, z2⟩ := zFm (X := X) (w := w) hcap hl0 hcp
 obtain ⟨hF, hCin, hRc, hInv⟩ := RM.lend r1 (hids x0) hin
 let I : Nat -> Nat -> Prop := fun b o => (¬ X.own b -> X.I b o) /\ (X.own b -> ∀ id blk, zBd s.mem us id = some blk -> μ id = some b -> o < blk.pub)
 let μc : Nat -> Option Nat := fun c => match lkN (L ++ K) c with | some i => μ i | none => none
 have hrep := zCZ (vs := (args.map a.eval).toList ++ vs0) r1 hCin hInv has ⟨by simp [z1], fun i d v hd hv => by
  by_cases hi : i < args.size
  ·rw [List.getElem?_append_left (by simpa using hi)] at hd hv
   simp only [List.getElem?_map, Array.toList_map, Option.map_eq_some_iff] at hd hv
   obtain ⟨x, hx, rfl⟩ := hd
   obtain ⟨y, hy, rfl⟩ := hv
   rw [hx] at hy
   cases hy
   exact (zAA (zBn hr x) (zAC hn x (List.mem_cons_of_mem _ (List.mem_of_getElem? hx)))).kept r2
  ·rw [List.getElem?_append_right (by simpa using hi)] at hd hv
   simp only [List.length_map, Array.length_toList, Array.toList_map] at hd hv
   exact (z2 _ d v hd hv).kept r2⟩ r3
 have hcall : (execOp a.eval o).run P w = .ok (.enter f (args.map a.eval ++ vs0.toArray)) w := by
  have hb : fn.body.isNone = false := by rw [k2]; rfl
  have hne : ¬ (fn.name = "runtime.NumGoroutine") := by simpa using k3
  simp [execOp, hop, resolve, hfv, Deferred.ofValue, invoke, callFunc, k1, hne, k2]
 unfold Oper.wp
 rw [hcall, Oper.upon_enter]
 have hl : (args.map a.eval ++ vs0.toArray).toList = (args.map a.eval).toList ++ vs0 := by simp
 refine (hfn w (args.map a.eval ++ vs0.toArray) I μc hRc (fun x hx => by
  have h1 := hr (1000000 + x.1)
  rw [hgl x hx, zBH] at h1
  exact zCx hCin (h1.kept r2)) (by rw [hl]; exact hrep)).mono ?_
 rintro e w' ⟨rfl, x, μf, hMf, hkeep⟩
 obtain ⟨μ', t1, t2, t3, t4⟩ := RM.back r1 (hids x) hin (hsh x) rfl rfl hMf hkeep
 exact hQ x w' ⟨μ', t1, hsz, hdf, fun t => (hr t).kept (r2.trans t2)⟩
theorem zFn (L K A : List (Nat × Nat)) {gs : List (Nat × List E)} {ops : Array Oper} {o : Oper} {rest : List Oper} {tm : Nat -> D} {m : Mem} {fo : Operand} {f : Nat} {caps : List (Nat × Nat × Nat)} {args : Array Operand} {ts : Array TypeId} {az : List D} {us : zBa} {ch : List PanicEntry} {ms : List (Nat × Blk)} {mx : σ -> List (Nat × Blk)} (hop : o.op = .call ⟨.value fo, args, ts⟩) (hgd : zBT ops ⟨tm, m⟩ o = .free) (hfo : ((⟨tm, m⟩ : St).ev fo).strip = .one (.clo f caps)) (hcap : zC4 m caps = true)
  (hfn : FnP P f gs ms az ch mx) (has : ArgsH m (zBN m (L ++ K)) (fun c => isS (zAl ms c)) ((args.toList.map fun x => ((⟨tm, m⟩ : St).ev x).strip) ++ zET caps) az us) (hver : ∀ i, zA7 (zDH m us) i = zA7 m i) (hn : zAR ⟨tm, m⟩ (fo :: args.toList) = []) (hgl : gs.map (fun x => tm (1000000 + x.1)) = gs.map fun x => .one (.eptr x.2))
  (hids : ∀ x, zCT ms (mx x) L K A = true) (x0 : σ) (hin : zHj (zDH m us) ms (zBN m (L ++ K)) (L ++ K)) (hsh : ∀ x, zJe ms (mx x) L) : LexP P X ops ch (o :: rest) ⟨tm, m⟩ fun x => ⟨tm, zDo (zDH m us) (mx x) L K A⟩ := by
 have e : zBN m (L ++ K) = zBN (zDH m us) (L ++ K) := by
  funext c
  unfold zBN
  split
  ·rw [hver]
  ·rfl
 rw [e] at has hin
 rw [zB9] at has hin ⊢
 exact .pan (zQu (s := ⟨tm, m⟩) L K A hop hgd hfo hcap has (fun p hp => by rw [hn] at hp; cases hp) (zB4 hgl) hfn hids x0 hin hsh)
theorem zJM {gs : List (Nat × List E)} {ops : Array Oper} {s : St} {o : Oper} {fo : Operand} {f : Nat} {caps : List (Nat × Nat × Nat)} {ts : Array TypeId} (L K A : List (Nat × Nat)) (hop : o.op = .call ⟨.value fo, #[], ts⟩) (hgd : zBT ops s o = .free) (hfo : (s.ev fo).strip = .one (.clo (1048576 + f) caps)) (hcap : zC4 s.mem caps = true) {az : List D} {us : zBa} {r : D} {ms ms' : List (Nat × Blk)}
  (has : ArgsH s.mem (zBN (zBd s.mem us) (L ++ K)) (fun c => isS (zAl ms c)) (zET caps) az us) (hn : ∀ p ∈ zAR s [fo], p) (hgl : ∀ x ∈ gs, s.tm (1000000 + x.1) = .one (.eptr x.2)) (hfn : FnH P f gs ms az r ms')
  (hids : zCT ms ms' L K A = true) (hin : zHj (zBd s.mem us) ms (zBN (zBd s.mem us) (L ++ K)) (L ++ K)) (hsh : zJe ms ms' L) (hd : zB0 X.nt o.dst = true) : OpT P X ops o s ⟨zF1 s.tm o.dst (r.rn (zBu (zBd s.mem us) L A)), zDo (zBd s.mem us) ms' L K A⟩ := by
 intro Q a w ⟨μ, hM, hsz, hdf, hr⟩
 rw [if_pos (zCa hgd a)]
 obtain ⟨⟨fn, c, k1, k2, k34⟩, hfn⟩ := hfn
 obtain ⟨k3, k4⟩ := Bool.or_eq_false_iff.1 k34
 obtain ⟨r1, r2, r3, r4⟩ := RM.pubs us s.mem hM (zGr has)
 have hf := zAA (zBn hr fo) (zAC hn fo (List.mem_cons_self ..))
 rw [hfo] at hf
 obtain ⟨vs0, hfv, hl0, hcp⟩ := hf
 rw [zLr] at hfv
 obtain ⟨z1, z2⟩ := zFm (X := X) (w := w) hcap hl0 hcp
 obtain ⟨hF, hCin, hRc, hInv⟩ := RM.lend r1 hids hin
 let I : Nat -> Nat -> Prop := fun b o => (¬ X.own b -> X.I b o) /\ (X.own b -> ∀ id blk, zBd s.mem us id = some blk -> μ id = some b -> o < blk.pub)
 let μc : Nat -> Option Nat := fun c => match lkN (L ++ K) c with | some i => μ i | none => none
 have hrep := zCZ (vs := vs0) r1 hCin hInv has ⟨z1, fun i d v hd hv => (z2 i d v hd hv).kept r2⟩ r3
 have hcall : (execOp a.eval o).run P w = .ok (.enter f vs0.toArray) w := by
  have hb : fn.body.isNone = false := by rw [k2]; rfl
  have hne : ¬ (fn.name = "runtime.NumGoroutine") := by simpa using k3
  simp [execOp, hop, resolve, hfv, Deferred.ofValue, invoke, callFunc, k1, hne, k2]
 unfold Oper.wp
 rw [hcall, Oper.upon_enter]
 refine (hfn w vs0.toArray I μc hRc (fun x hx => by
  have h1 := hr (1000000 + x.1)
  rw [hgl x hx, zBH] at h1
  exact zCx hCin (h1.kept r2)) hrep).mono ?_
 rintro e w' ⟨v, rfl, μf, hMf, hkeep, hv⟩
 obtain ⟨μ', t1, t2, t3, t4⟩ := RM.back r1 hids hin hsh rfl rfl hMf hkeep
 have hv' := zOg t3 t4 hv
 refine ⟨μ', t1, by cases o.dst <;> simp [Act.put, hsz], by cases o.dst <;> exact hdf, ?_⟩
 have := zBF (dst := o.dst) hr (r2.trans t2) hv' hsz hd []
 intro t
 have h := this t
 have e : (s.app o.dst (r.rn (zBu (zBd s.mem us) L A)) []).tm t = zF1 s.tm o.dst (r.rn (zBu (zBd s.mem us) L A)) t := by
  unfold St.app zF1
  cases o.dst <;> rfl
 rw [e] at h
 exact h
theorem zS5 (L K A : List (Nat × Nat)) {gs : List (Nat × List E)} {nt : Nat} {ops : Array Oper} {o : Oper} {rest : List Oper} {tm : Nat -> D} {m : Mem} {fo : Operand} {f : Nat} {caps : List (Nat × Nat × Nat)} {ts : Array TypeId} {az : List D} {us : zBa} {r : D} {ms ms' : List (Nat × Blk)} {s'' : St} (hop : o.op = .call ⟨.value fo, #[], ts⟩) (hgd : zBT ops ⟨tm, m⟩ o = .free) (hfo : ((⟨tm, m⟩ : St).ev fo).strip = .one (.clo (1048576 + f) caps)) (hcap : zC4 m caps = true)
  (hfn : FnH P f gs ms az r ms') (has : ArgsH m (zBN m (L ++ K)) (fun c => isS (zAl ms c)) (zET caps) az us) (hver : ∀ i, zA7 (zDH m us) i = zA7 m i) (hn : zAR ⟨tm, m⟩ [fo] = []) (hd : zB0 nt o.dst = true) (hnt : X.nt = nt) (hgl : gs.map (fun x => tm (1000000 + x.1)) = gs.map fun x => .one (.eptr x.2))
  (hids : zCT ms ms' L K A = true) (hin : zHj (zDH m us) ms (zBN m (L ++ K)) (L ++ K)) (hsh : zJe ms ms' L) (k : Lex P X ops rest ⟨zF1 tm o.dst (r.rn (zBu (zDH m us) L A)), zDo (zDH m us) ms' L K A⟩ s'') : Lex P X ops (o :: rest) ⟨tm, m⟩ s'' := by
 have e : zBN m (L ++ K) = zBN (zDH m us) (L ++ K) := by
  funext c
  unfold zBN
  split
  ·rw [hver]
  ·rfl
 rw [e] at has hin
 rw [zB9] at has hin k
 exact .cons (zJM (s := ⟨tm, m⟩) L K A hop hgd hfo hcap has (fun p hp => by rw [hn] at hp; cases hp) (zB4 hgl) hfn hids hin hsh (by rw [hnt]; exact hd)) k
theorem zOx {gs : List (Nat × List E)} {ops : Array Oper} {s : St} {o : Oper} {fo : Operand} {f : Nat} {caps : List (Nat × Nat × Nat)} {ts : Array TypeId} (L K A : List (Nat × Nat)) (hop : o.op = .call ⟨.value fo, #[], ts⟩) (hgd : zBT ops s o = .free) (hfo : (s.ev fo).strip = .one (.clo (1048576 + f) caps)) (hcap : zC4 s.mem caps = true) {az : List D} {us : zBa} {ch : List PanicEntry} {ms : List (Nat × Blk)} {mx : σ -> List (Nat × Blk)}
  (has : ArgsH s.mem (zBN (zBd s.mem us) (L ++ K)) (fun c => isS (zAl ms c)) (zET caps) az us) (hn : ∀ p ∈ zAR s [fo], p) (hgl : ∀ x ∈ gs, s.tm (1000000 + x.1) = .one (.eptr x.2)) (hfn : FnP P f gs ms az ch mx)
  (hids : ∀ x, zCT ms (mx x) L K A = true) (x0 : σ) (hin : zHj (zBd s.mem us) ms (zBN (zBd s.mem us) (L ++ K)) (L ++ K)) (hsh : ∀ x, zJe ms (mx x) L) : OpP P X ops o ch s fun x => ⟨s.tm, zDo (zBd s.mem us) (mx x) L K A⟩ := by
 intro N Q a w ⟨μ, hM, hsz, hdf, hr⟩ hQ
 refine ⟨zCa hgd a, ?_⟩
 obtain ⟨⟨fn, c, k1, k2, k34⟩, hfn⟩ := hfn
 obtain ⟨k3, k4⟩ := Bool.or_eq_false_iff.1 k34
 obtain ⟨r1, r2, r3, r4⟩ := RM.pubs us s.mem hM (zGr has)
 have hf := zAA (zBn hr fo) (zAC hn fo (List.mem_cons_self ..))
 rw [hfo] at hf
 obtain ⟨vs0, hfv, hl0, hcp⟩ := hf
 rw [zLr] at hfv
 obtain ⟨z1, z2⟩ := zFm (X := X) (w := w) hcap hl0 hcp
 obtain ⟨hF, hCin, hRc, hInv⟩ := RM.lend r1 (hids x0) hin
 let I : Nat -> Nat -> Prop := fun b o => (¬ X.own b -> X.I b o) /\ (X.own b -> ∀ id blk, zBd s.mem us id = some blk -> μ id = some b -> o < blk.pub)
 let μc : Nat -> Option Nat := fun c => match lkN (L ++ K) c with | some i => μ i | none => none
 have hrep := zCZ (vs := vs0) r1 hCin hInv has ⟨z1, fun i d v hd hv => (z2 i d v hd hv).kept r2⟩ r3
 have hcall : (execOp a.eval o).run P w = .ok (.enter f vs0.toArray) w := by
  have hb : fn.body.isNone = false := by rw [k2]; rfl
  have hne : ¬ (fn.name = "runtime.NumGoroutine") := by simpa using k3
  simp [execOp, hop, resolve, hfv, Deferred.ofValue, invoke, callFunc, k1, hne, k2]
 unfold Oper.wp
 rw [hcall, Oper.upon_enter]
 refine (hfn w vs0.toArray I μc hRc (fun x hx => by
  have h1 := hr (1000000 + x.1)
  rw [hgl x hx, zBH] at h1
  exact zCx hCin (h1.kept r2)) hrep).mono ?_
 rintro e w' ⟨rfl, x, μf, hMf, hkeep⟩
 obtain ⟨μ', t1, t2, t3, t4⟩ := RM.back r1 (hids x) hin (hsh x) rfl rfl hMf hkeep
 exact hQ x w' ⟨μ', t1, hsz, hdf, fun t => (hr t).kept (r2.trans t2)⟩
theorem zME (L K A : List (Nat × Nat)) {gs : List (Nat × List E)} {ops : Array Oper} {o : Oper} {rest : List Oper} {tm : Nat -> D} {m : Mem} {fo : Operand} {f : Nat} {caps : List (Nat × Nat × Nat)} {ts : Array TypeId} {az : List D} {us : zBa} {ch : List PanicEntry} {ms : List (Nat × Blk)} {mx : σ -> List (Nat × Blk)} (hop : o.op = .call ⟨.value fo, #[], ts⟩) (hgd : zBT ops ⟨tm, m⟩ o = .free) (hfo : ((⟨tm, m⟩ : St).ev fo).strip = .one (.clo (1048576 + f) caps)) (hcap : zC4 m caps = true)
  (hfn : FnP P f gs ms az ch mx) (has : ArgsH m (zBN m (L ++ K)) (fun c => isS (zAl ms c)) (zET caps) az us) (hver : ∀ i, zA7 (zDH m us) i = zA7 m i) (hn : zAR ⟨tm, m⟩ [fo] = []) (hgl : gs.map (fun x => tm (1000000 + x.1)) = gs.map fun x => .one (.eptr x.2))
  (hids : ∀ x, zCT ms (mx x) L K A = true) (x0 : σ) (hin : zHj (zDH m us) ms (zBN m (L ++ K)) (L ++ K)) (hsh : ∀ x, zJe ms (mx x) L) : LexP P X ops ch (o :: rest) ⟨tm, m⟩ fun x => ⟨tm, zDo (zDH m us) (mx x) L K A⟩ := by
 have e : zBN m (L ++ K) = zBN (zDH m us) (L ++ K) := by
  funext c
  unfold zBN
  split
  ·rw [hver]
  ·rfl
 rw [e] at has hin
 rw [zB9] at has hin ⊢
 exact .pan (zOx (s := ⟨tm, m⟩) L K A hop hgd hfo hcap has (fun p hp => by rw [hn] at hp; cases hp) (zB4 hgl) hfn hids x0 hin hsh)
theorem zOw {ops : Array Oper} {s : St} {o : Oper} {x : Operand} {ty : TypeId} {v : Value} (hop : o.op = .panic x) (hgd : zBT ops s o = .free) (hx : (s.ev x).strip = .one (.e (.v (.iface ty v)))) (hn : zAR s [x] = []) : OpP P X ops o [{ v := .iface ty v, recovered := false }] s fun _ : Unit => s := by
 intro N Q a w ⟨μ, hM, hsz, hdf, hr⟩ hQ
 refine ⟨zCa hgd a, ?_⟩
 have hf := zAA (zBn hr x) (zAC (fun p hp => by rw [hn] at hp; cases hp) x (List.mem_cons_self ..))
 rw [hx] at hf
 have hv : a.eval x = .iface ty v := zCu hf
 have hcall : (execOp a.eval o).run P w = .halt (.panic (.iface ty v)) w := by
  simp [execOp, hop, hv, Instr.panic, goPanic]
 unfold Oper.wp
 rw [hcall]
 exact hQ () w ⟨μ, hM, hsz, hdf, hr⟩
theorem zJG {ops : Array Oper} {o : Oper} {rest : List Oper} {s : St} {x : Operand} {ty : TypeId} {v : Value} (hop : o.op = .panic x) (hgd : zBT ops s o = .free) (hx : (s.ev x).strip = .one (.e (.v (.iface ty v)))) (hn : zAR s [x] = []) : LexP P X ops [{ v := .iface ty v, recovered := false }] (o :: rest) s fun _ : Unit => s := .pan (zOw hop hgd hx hn)
def St.drop (l : List Nat) (s : St) : St := ⟨fun t => bif inB l t then .any else s.tm t, s.mem⟩
theorem zSH (l : List Nat) (s : St) : Le X s (s.drop l) := by
 intro a w ⟨μ, hM, hsz, hdf, hr⟩
 refine ⟨μ, hM, hsz, hdf, fun t => ?_⟩
 show zAy _ _ _ (bif inB l t then .any else s.tm t) _
 cases inB l t with
 | true => trivial
 | false => exact hr t
theorem zDY (hT : TOk P T) {nt : Nat} (hnt : X.nt = nt) {ops : Array Oper} {s : St} {o : Oper} {φ : Prop} {d : D} {t : Nat} (h : zGA T nt ops s o = some ⟨φ, d, []⟩) (hφ : φ) (hd : o.dst = some t) (ha : s.tm t = .any) : OpT P X ops o s s := by
 subst hnt
 have h1 := zEb (X := X) hT h hφ
 have hle : Le X (s.app o.dst d []) s := by
  intro a w ⟨μ, hM, hsz, hdf, hr⟩
  refine ⟨μ, hM, hsz, hdf, fun t' => ?_⟩
  have h2 := hr t'
  rw [hd] at h2
  by_cases e : t' = t
  ·rw [e, ha]; trivial
  ·have e' : (s.app (some t) d []).tm t' = s.tm t' := by
    show upd s.tm t d t' = s.tm t'
    unfold upd
    cases hb : Nat.beq t' t with
    | false => rfl
    | true => exact absurd (Nat.eq_of_beq_eq_true hb) e
   rw [e'] at h2
   exact h2
 intro Q a w hR
 have h3 := h1 Q a w hR
 split
 ·rename_i hw
  rw [if_pos hw] at h3
  exact Oper.wp_mono (fun a w hr => hle a w hr) h3
 ·rename_i hw
  rw [if_neg hw] at h3
  exact hle _ _ h3
inductive Early (P : Program) (X : Ctx) (ops : Array Oper) (s : St) : List Nat -> Prop
 | nil : Early P X ops s []
 | cons {i : Nat} {r : List Nat} {o : Oper} (ho : ops[i]? = some o) (h : OpT P X ops o s s) (k : Early P X ops s r) : Early P X ops s (i :: r)
theorem Early.get {ops : Array Oper} {s : St} {l : List Nat} (h : Early P X ops s l) : ∀ i, inB l i = true -> ∃ o, ops[i]? = some o /\ OpT P X ops o s s := by
 induction h with
 | nil => intro i hi; cases hi
 | @cons i0 r o ho h k ih =>
  intro i hi
  rw [inB, Bool.or_eq_true] at hi
  rcases hi with hi | hi
  ·obtain rfl := Nat.eq_of_beq_eq_true hi
   exact ⟨_, ho, h⟩
  ·exact ih i hi
end
def FnR {σ : Type} (P : Program) (f : Nat) (gs : List (Nat × List E)) (ms : List (Nat × Blk)) (args : List D) (q : Prop) (r : D) (ms' : List (Nat × Blk)) (mx : σ -> List (Nat × Blk)) (ch : List PanicEntry) : Prop :=
  (q -> FnH P f gs ms args r ms') /\ (¬ q -> FnP P f gs ms args ch mx)
def zWB {σ : Type} (T : Nat -> Option TI) (rs : List ResultVar) (q : Prop) (r : D) (ms ms' : List (Nat × Blk)) (mx : σ -> List (Nat × Blk)) (ch : List PanicEntry) (e : Exit) (s : St) : Prop :=
  (q -> zRd T rs r ms ms' e s) /\ (¬ q -> zVi ch ms mx e s)
section
variable {P : Program} {T : Nat -> Option TI} {X : Ctx} {σ : Type}
theorem zBG (hT : TOk P T) {f : Nat} {fn : Func} {c : Code} (hf : P.funcs[f]? = some fn) (hb : fn.body = some c) (hname : (fn.name == "runtime.NumGoroutine") = false) {gs : List (Nat × List E)} {args : List D} {q : Prop} {r : D} {ms ms' : List (Nat × Blk)} {mx : σ -> List (Nat × Blk)} {ch : List PanicEntry} (hn : args.length <= fn.ntmps)
    (hin : zOH ms = true) (hout : zE4 ms' ms = true) (houx : ∀ x, zE4 (mx x) ms = true) (h : ∀ X : Ctx, X.nt = fn.ntmps -> Tr P X c (St.startH gs ms args) (zWB T fn.results.toList q r ms ms' mx ch)) (hbig : Nat.ble fn.ntmps 900000 = true := by rfl) (hlt : Nat.ble 1048576 f = false := by rfl) : FnR P f gs ms args q r ms' mx ch :=
  ⟨fun hq => zGU hT hf hb hname hn hin hout (fun X hX => zEJ (h X hX) fun _ _ he => he.1 hq) hbig hlt,
   fun hq => zJ3 hf hb hname hn hin houx (fun X hX => zEJ (h X hX) fun _ _ he => he.2 hq) hbig hlt⟩
theorem zAE {id : Nat} {ops : Array Oper} {ch : List PanicEntry} {s s1 : St} {s2 : σ -> St} {Q : Exit -> St -> Prop} (k : Nat) (h : Lex P X ops (ops.toList.take k) s s1) (h2 : LexP P X ops ch (ops.toList.drop k) s1 s2) (hQ : ∀ x, Q (.panic ch) (s2 x)) : Tr P X (.region id ops false) s Q := by
  refine zMU (ch := ch) (s' := s2) ?_ hQ
  have key : ∀ (l : List Oper) (s t : St), Lex P X ops l s t -> LexP P X ops ch (ops.toList.drop k) t s2 -> LexP P X ops ch (l ++ ops.toList.drop k) s s2 := by
    intro l s t q
    induction q with
    | nil s => exact fun h => h
    | cons a _ ih => exact fun h => .cons a (ih h)
  have := key _ s s1 h h2
  rwa [List.take_append_drop] at this
end
theorem zU8 {P : Program} (L K A : List (Nat × Nat)) {T : Nat -> Option TI} {gs : List (Nat × List E)} {nt : Nat} {ops : Array Oper} {o : Oper} {rest : List Oper} {tm : Nat -> D} {m : Mem} {fo : Operand} {f : Nat} {caps : List (Nat × Nat × Nat)} {ts : Array TypeId} {az : List D} {r : D} {ms ms' : List (Nat × Blk)} {fps : List FP} {s'' : St} (hop : o.op = .call ⟨.value fo, #[], ts⟩) (hgd : zBT ops ⟨tm, m⟩ o = .free) (hfo : ((⟨tm, m⟩ : St).ev fo).strip = .one (.clo (1048576 + f) caps)) (hcap : zC4 m caps = true)
    (hfn : FnH P f gs ms az r ms') (has : ArgsH m (zBN m (L ++ K)) (fun c => isS (zAl ms c)) (zET caps) az []) (hn : zAR ⟨tm, m⟩ [fo] = []) (hd : zB0 nt o.dst = true) {rd : List Nat} (hrd : (zLi (zKs ⟨tm, m⟩ o.op.operands.toList) fun rd => some rd) = some rd) (hgl : gs.map (fun x => tm (1000000 + x.1)) = gs.map fun x => .one (.eptr x.2))
    (hids : zCT ms ms' L K A = true) (hin : zHj m ms (zBN m (L ++ K)) (L ++ K)) (hsh : zJe ms ms' L) (k : LexD P T nt ops rest ⟨zF1 tm o.dst (r.rn (zBu m L A)), zDo m ms' L K A⟩ fps s'') : LexD P T nt ops (o :: rest) ⟨tm, m⟩ ((zFk o.dst :: (zKt L K A ++ rd), zKt L K A ++ upV (zKt L K A)) :: fps) s'' := by
  rw [zCV] at hrd
  cases hrd
  have hfm : fo ∈ o.op.operands := by rw [hop]; simp [Op.operands, Call.operands]
  have hput : ∀ (s : St) (d : D) (us : zBa), s.app o.dst d us = ⟨zF1 s.tm o.dst d, zBd s.mem us⟩ := fun s d us => by
    unfold St.app zF1
    cases o.dst <;> rfl
  have hU : ∀ m' : Mem, (∀ k, inB (zKt L K A) k = true -> m k = m' k) -> AgL m m' L /\ AgL m m' A /\ AgL m m' K := fun m' h => by
    refine ⟨fun y hy => h _ (zAG ?_), fun y hy => h _ (zAG ?_), fun y hy => h _ (zAG ?_)⟩
    all_goals
      unfold zKt
      refine List.mem_map.2 ⟨y, ?_, rfl⟩
      simp [hy]
  have inBapp : ∀ (a b : List Nat) (k : Nat), inB a k = true -> inB (a ++ b) k = true := fun a b k => by
    induction a with
    | nil => intro h; cases h
    | cons x a ih =>
      intro h
      simp only [List.cons_append, inB, Bool.or_eq_true] at h ⊢
      exact h.imp id ih
  have hmem : ∀ u ∈ zEv m ms' L K A, u.1 ∈ zKt L K A := fun u hu => by
    unfold zEv at hu
    unfold zKt
    rw [List.map_append, List.map_append]
    rcases List.mem_append.1 hu with hu | hu
    · obtain ⟨y, hy, rfl⟩ := zD1 hu
      exact List.mem_append_left _ (List.mem_map_of_mem (f := (·.2)) hy)
    rcases List.mem_append.1 hu with hu | hu
    · obtain ⟨y, hy, b, _, rfl⟩ := zDn hu
      exact List.mem_append_right _ (List.mem_append_left _ (List.mem_map_of_mem (f := (·.2)) hy))
    · obtain ⟨y, hy, b, _, rfl⟩ := zDm hu
      exact List.mem_append_right _ (List.mem_append_right _ (List.mem_map_of_mem (f := (·.2)) hy))
  refine .cons (d := r.rn (zBu m L A)) (us := zEv m ms' L K A) ⟨.gen fun s' hS hF X hX => ?_, fun x hx k hk => ?_, zAG (List.mem_cons_self ..), fun u hu => zAG (List.mem_append_left _ (hmem u hu)), zCL hop, fun u hu => .inl (zAG (List.mem_append_right _ (zLD (hmem u hu))))⟩ ?_
  · have hF' : ∀ k, inB (zKt L K A) k = true -> m k = s'.mem k := fun k hk => hF k (by
      simp only [inB, Bool.or_eq_true]
      exact .inr (inBapp _ _ k hk))
    obtain ⟨aL, aA, aK⟩ := hU s'.mem hF'
    have aLK : AgL m s'.mem (L ++ K) := fun y hy => (List.mem_append.1 hy).elim (aL y) (aK y)
    have hrn := zOh aLK
    have hro := zLV aL aA
    have hus : zEv m ms' L K A = zEv s'.mem ms' L K A := by
      unfold zEv
      rw [zIE aK, zI0 hro aA, zIv hro aL]
    have hfo' : (s'.ev fo).strip = .one (.clo (1048576 + f) caps) := by rw [<-hS.ev fo hfm]; exact hfo
    have hA0 : Alk m s'.mem (.one (.clo (1048576 + f) caps)) := hfo ▸ zC1 (hS.mem fo (zEd hop hfm))
    have hA0 : ∀ c ∈ caps, m c.1 = s'.mem c.1 := fun c hc => hA0 c.1 (by simp only [zCO, zDy]; exact List.mem_map_of_mem hc)
    rw [hput, hus, <-zIs hids, hro]
    have := zJM (P := P) (X := X) (ops := ops) (s := s') (o := o) (us := []) (gs := gs) (r := r) (ms := ms) (ms' := ms') (az := az) L K A hop (by rw [<-zBL hS]; exact hgd) hfo' (zI2 hA0 hcap) (by
      show ArgsH s'.mem (zBN s'.mem (L ++ K)) _ _ _ _
      rw [<-hrn]
      exact zMH has fun d hd => zGq hA0 d hd) (by
      rw [<-zA0 (s := ⟨tm, m⟩) fun x hx => by
        rw [List.mem_singleton.1 hx]; exact hS.ev _ hfm, hn]
      exact fun p hp => nomatch hp) (fun x hx => (hS.glob x.1).symm.trans (zB4 hgl x hx)) hfn hids (by
      show zHj s'.mem ms (zBN s'.mem (L ++ K)) (L ++ K)
      rw [<-hrn]
      exact zK8 aLK hin) hsh (by rw [hX]; exact hd)
    exact this
  · refine zAG (List.mem_cons_of_mem _ (List.mem_append_right _ (zCh x (by simpa using zBR hx) k hk)))
  · rw [hput]
    show LexD P T nt ops rest ⟨zF1 tm o.dst _, zBd m (zEv m ms' L K A)⟩ fps s''
    rw [<-zIs hids]
    exact k
inductive Chain {σ : Type} (P : Program) (X : Ctx) (ops : Array Oper) (k : Nat) (ch : List PanicEntry) (early : List Nat) : List Nat -> St -> (σ -> St) -> Prop
  | pan {s : St} {s1 : σ -> St} {o : Oper} (hk : ops[k]? = some o) (h : LexP P X ops ch [o] s s1) (hE : Early P X ops s early) : Chain P X ops k ch early [] s s1
  | cons {i : Nat} {r : List Nat} {s s1 : St} {s2 : σ -> St} {o : Oper} (ho : ops[i]? = some o) (h : OpT P X ops o s s1) (hE : Early P X ops s early) (c : Chain P X ops k ch early r s1 s2) : Chain P X ops k ch early (i :: r) s s2
def zTk (md : Region.Mode) (ops : Array Oper) (k : Nat) (early : List Nat) : Nat -> List Nat -> Array Bool -> Bool
  | 0, _, _ => false
  | fuel + 1, mand, listed => !(Region.ready md ops listed).isEmpty && (Region.ready md ops listed).all fun i =>
    (match mand with
      | [] => Nat.beq i k
      | j :: r => Nat.beq i j && zTk md ops k early fuel r (listed.setIfInBounds i true)) || (inB early i && zTk md ops k early fuel mand (listed.setIfInBounds i true))
theorem zEH {σ : Type} {P : Program} {X : Ctx} {md : Region.Mode} {ops : Array Oper} {ch : List PanicEntry} {s1 : σ -> St} {k : Nat} {early : List Nat} {Q : Exit -> Act -> World -> Prop} (hQ : ∀ x a w, R X (s1 x) a w -> Q (.panic ch) a w) : ∀ (fuel : Nat) (mand : List Nat) (s : St) (listed : Array Bool) (a : Act) (w : World), Chain P X ops k ch early mand s s1 -> R X s a w -> zTk md ops k early fuel mand listed = true -> wpAny P md ops Q fuel listed a w
  | 0, _, _, _, _, _, _, _, h0 => nomatch h0
  | fuel + 1, mand, s, listed, a, w, hC, hR, h0 => by
    rw [zTk, Bool.and_eq_true, List.all_eq_true] at h0
    refine ⟨fun e => absurd h0.1 (by rw [e]; decide), fun i hi => ?_⟩
    have h1 := h0.2 i hi
    have hE : Early P X ops s early := by cases hC <;> assumption
    rw [Bool.or_eq_true] at h1
    have go : ∀ (o : Oper) (t : St) (m : List Nat), ops[i]? = some o -> OpT P X ops o s t -> Chain P X ops k ch early m t s1 -> zTk md ops k early fuel m (listed.setIfInBounds i true) = true -> wpOp P ops Q i (wpAny P md ops Q fuel (listed.setIfInBounds i true)) a w := by
      intro o t m ho hop hc hb
      unfold wpOp
      rw [ho]
      have h3 := hop Q a w hR
      simp only
      split
      · rename_i hw
        rw [if_pos hw] at h3
        exact .inl (Oper.wp_mono (fun a w hr => zEH hQ fuel m t _ a w hc hr hb) h3)
      · rename_i hw
        rw [if_neg hw] at h3
        exact zEH hQ fuel m t _ _ _ hc h3 hb
    rcases h1 with h1 | h1
    · cases hC with
      | @pan _ _ o hk h _ =>
        obtain rfl := Nat.eq_of_beq_eq_true h1
        unfold wpOp
        rw [hk]
        have h : OpP P X ops o ch s s1 := by
          cases h with
          | pan h => exact h
          | cons _ k => cases k
        obtain ⟨q1, q2⟩ := h (wpAny P md ops Q fuel (listed.setIfInBounds i true)) Q a w hR (fun x w' => hQ x a w')
        simp only
        rw [if_pos q1]
        exact .inl q2
      | cons ho h _ c =>
        rw [Bool.and_eq_true] at h1
        obtain rfl := Nat.eq_of_beq_eq_true h1.1
        exact go _ _ _ ho h c h1.2
    · rw [Bool.and_eq_true] at h1
      obtain ⟨o, ho, hop⟩ := hE.get i h1.1
      exact go o s mand ho hop hC h1.2
theorem zLE {σ : Type} {P : Program} {X : Ctx} (hm : P.follows .mixedOrders = true) {id : Nat} {ops : Array Oper} {ch : List PanicEntry} {s : St} {s1 : σ -> St} {Q : Exit -> St -> Prop} (l : List Nat) (k : Nat) (early mand : List Nat) (h : Chain P X ops k ch early mand (s.drop l) s1)
    (hB : zTk .any ops k early ops.size mand (Array.replicate ops.size false) = true) (hQ : ∀ x, Q (.panic ch) (s1 x)) : Tr P X (.region id ops true) s Q := by
  intro a w hR
  refine wp_region_any hm ?_
  obtain ⟨μ, hM, hsz, hdf, hr⟩ := zSH l s a w hR
  obtain ⟨h1, h2⟩ := hM.same (w' := { w with drawn := w.drawn + 1 }) rfl rfl rfl rfl
  exact zEH (fun x a w hR => ⟨s1 x, hQ x, hR⟩) _ mand _ _ a _ h ⟨μ, h1, hsz, hdf, fun t => (hr t).kept h2⟩ hB
theorem zEe {P : Program} {X : Ctx} {T : Nat -> Option TI} (hT : TOk P T) {nt : Nat} (hnt : X.nt = nt) {ops : Array Oper} {s : St} {o : Oper} {φ : Prop} {d : D} {us : zBa} (h : zGA T nt ops s o = some ⟨φ, d, us⟩) (hφ : φ) : OpT P X ops o s (s.app o.dst d us) := by
  subst hnt
  exact zEb (X := X) hT h hφ
end Go.Proofs.YtcdifgacoleckaaGreatDoor.Ab
