/- Package right, the plain laws: grants in order; who may hand on; a grant put in. No condition. -/
import Derived.Test.YtmicapdbgjafnabTGr7
namespace Go.Proofs.Ytmicapdbgjafnab
open Go Go.RowKit Go.Proofs.Ytmicapdbgjafnab.Ab

theorem gfL_zero : ∀ {l : List Gr} {last : Int}, gfL l last = 0 → (∀ g ∈ l, boundsF g = 0 ∧ last < rankF g) ∧ l.Pairwise fun a b => rankF a < rankF b
  | [], _, _ => ⟨(fun _ h => nomatch h), List.Pairwise.nil⟩
  | g :: r, last, h => by
    rw [gfL] at h
    split at h
    · rename_i hb; exact absurd h hb
    rename_i hb
    split at h
    · cases h
    rename_i hr
    obtain ⟨h1, h2⟩ := gfL_zero h
    refine ⟨fun x hx => ?_, List.Pairwise.cons (fun x hx => (h1 x hx).2) h2⟩
    rcases List.mem_cons.1 hx with rfl | hx
    · exact ⟨Classical.byContradiction hb, by omega⟩
    · have := h1 x hx
      exact ⟨this.1, by omega⟩
theorem gfault_zero {l : List Gr} (h : gfaultF l = 0) : l.length ≤ 96 ∧ (∀ g ∈ l, boundsF g = 0) ∧ (l.Pairwise fun a b => rankF a < rankF b) ∧ ∀ g ∈ l, stP l g = true := by
  unfold gfaultF at h
  split at h
  · cases h
  split at h
  · rename_i h2; exact absurd h h2
  rename_i h1 h2
  split at h
  · cases h
  rename_i h3
  have h2 : gfL l (-1) = 0 := Classical.byContradiction h2
  obtain ⟨k1, k2⟩ := gfL_zero h2
  refine ⟨by omega, fun g hg => (k1 g hg).1, k2, fun g hg => ?_⟩
  have hle : (stF l).length ≤ l.length := List.length_filter_le ..
  have h5 : (List.filter (stP l) l).length = (stF l).length := rfl
  have he : stF l = l := (List.filter_sublist (l := l) (p := stP l)).eq_of_length (by omega)
  have : g ∈ stF l := by rw [he]; exact hg
  exact (List.mem_filter.1 this).2

def mayP (u ob rt : Int) (g : Gr) : Bool := decide (g.2.1 = u ∧ g.2.2.1 = ob ∧ g.2.2.2.1 = rt ∧ g.2.2.2.2.1 = true)
def mayF (l : List Gr) (u ob rt : Int) : Bool := decide (ownF ob = u) || l.any (mayP u ob rt)
theorem may_reach {l : List Gr} {u ob rt : Int} (hl : ∀ g ∈ l, g.ok) (hs : ∀ g ∈ l, stP l g = true) (hu : 0 ≤ u ∧ u < 3) (ho : 0 ≤ ob ∧ ob < 12) : reachF l u ob rt = mayF l u ob rt := by
  cases hm : mayF l u ob rt with
  | true =>
    unfold mayF at hm
    rw [Bool.or_eq_true, decide_eq_true_eq, List.any_eq_true] at hm
    rcases hm with hm | ⟨g, hg, hm⟩
    · exact reach_own ho hm.symm
    · obtain ⟨rfl, rfl, rfl, h4⟩ := of_decide_eq_true hm
      exact reach_step hg (hl g hg) ⟨h4, rfl, rfl⟩ (hs g hg)
  | false =>
    cases hr : reachF l u ob rt with
    | false => rfl
    | true =>
      unfold mayF at hm
      rw [Bool.or_eq_false_iff, decide_eq_false_iff_not, List.any_eq_false] at hm
      obtain ⟨o1, _⟩ := own_in ho
      have := reach_ind (fun k => k = (ob.tdiv 4).toNat ∨ ∃ g ∈ l, g.2.1.toNat = k ∧ hands ob rt g) (.inl rfl) (fun g hg hh _ => .inr ⟨g, hg, rfl, hh⟩) hr
      rcases this with h | ⟨g, hg, h, hh⟩
      · exact absurd (by rw [o1]; omega) hm.1
      · have hk := (hl g hg).2.1
        refine absurd (decide_eq_true ⟨by omega, hh.2.1, hh.2.2, hh.1⟩) (hm.2 g hg)

theorem pl_rank {p g : Gr} (hp : boundsF p = 0) (hg : boundsF g = 0) : pl p = pl g ↔ rankF p = rankF g := by
  obtain ⟨p1, p2, p3, p4⟩ := bndB hp
  obtain ⟨g1, g2, g3, g4⟩ := bndB hg
  rw [rank_eq hp, rank_eq hg]
  unfold pl
  clear hp hg
  simp only [Prod.mk.injEq]
  omega
theorem filter_pl {l : List Gr} {g : Gr} (hl : ∀ h ∈ l, boundsF h = 0) (hg : boundsF g = 0) : l.filter (fun h => decide (pl h ≠ pl g)) = l.filter fun h => decide (rankF h ≠ rankF g) :=
  List.filter_congr fun h hh => by rw [decide_eq_decide, ne_eq, ne_eq, pl_rank (hl h hh) hg]

/-! ### a grant put in -/
def withOp (g : Gr) (b : Bool) : Gr := (g.1, g.2.1, g.2.2.1, g.2.2.2.1, b, ())
theorem withOp_pl (g : Gr) (b : Bool) : pl (withOp g b) = pl g := rfl
theorem withOp_rank (g : Gr) (b : Bool) : rankF (withOp g b) = rankF g := rfl
theorem withOp_bounds (g : Gr) (b : Bool) : boundsF (withOp g b) = boundsF g := rfl
def sameOp (g : Gr) (l : List Gr) : Bool := g.2.2.2.2.1 || l.any fun h => decide (rankF h = rankF g) && h.2.2.2.2.1
def givenF (l : List Gr) (g : Gr) : List Gr := l.filter (fun h => decide (rankF h < rankF g)) ++ withOp g (sameOp g l) :: l.filter (fun h => decide (rankF g < rankF h))
def giveL : List Gr → Gr → Bool → List Gr → List Gr
  | [], g, i, out => if i = true then out else out ++ [g]
  | h :: r, g, i, out =>
    if pl h = pl g then giveL r (withOp g (g.2.2.2.2.1 || h.2.2.2.2.1)) i out
    else if i = false ∧ befF (pl g) (pl h) = true then giveL r g true (out ++ [g] ++ [h])
    else giveL r g i (out ++ [h])
theorem give_in : ∀ {l : List Gr} {g : Gr} {out : List Gr}, boundsF g = 0 → (∀ h ∈ l, boundsF h = 0 ∧ rankF g < rankF h) → giveL l g true out = out ++ l
  | [], g, out, _, _ => by simp [giveL]
  | h :: r, g, out, hg, hl => by
    have hh := hl h (List.mem_cons_self ..)
    have hn : ¬ pl h = pl g := fun e => by have := (pl_rank hh.1 hg).1 e; omega
    rw [giveL, if_neg hn, if_neg (by simp), give_in hg fun x hx => hl x (List.mem_cons_of_mem _ hx)]
    simp
theorem give_next {l : List Gr} {g : Gr} {out : List Gr} (hg : boundsF g = 0) (hl : ∀ h ∈ l, boundsF h = 0 ∧ rankF g < rankF h) : giveL l g false out = out ++ g :: l := by
  cases l with
  | nil => simp [giveL]
  | cons h r =>
    have hh := hl h (List.mem_cons_self ..)
    have hn : ¬ pl h = pl g := fun e => by have := (pl_rank hh.1 hg).1 e; omega
    rw [giveL, if_neg hn, if_pos ⟨rfl, (bef_rank hg hh.1).2 hh.2⟩, give_in hg fun x hx => hl x (List.mem_cons_of_mem _ hx)]
    simp
theorem gt_same {l : List Gr} {g : Gr} (hl : ∀ h ∈ l, rankF g < rankF h) : l.filter (fun h => decide (rankF h < rankF g)) = [] ∧ l.filter (fun h => decide (rankF g < rankF h)) = l ∧ (l.any fun h => decide (rankF h = rankF g) && h.2.2.2.2.1) = false := by
  refine ⟨List.filter_eq_nil_iff.2 fun h hh => ?_, List.filter_eq_self.2 fun h hh => decide_eq_true (hl h hh), List.any_eq_false.2 fun h hh => ?_⟩
  · have := hl h hh
    rw [decide_eq_true_eq]
    omega
  · have := hl h hh
    rw [decide_eq_false (by omega)]
    simp
theorem give_given : ∀ {l : List Gr} {g : Gr} {out : List Gr}, boundsF g = 0 → (∀ h ∈ l, boundsF h = 0) → (l.Pairwise fun a b => rankF a < rankF b) → giveL l g false out = out ++ givenF l g
  | [], g, out, _, _, _ => by
    obtain ⟨_, _, _, _, b, ⟨⟩⟩ := g
    simp [giveL, givenF, sameOp, withOp]
  | h :: r, g, out, hg, hl, hp => by
    have hh := hl h (List.mem_cons_self ..)
    have hr := fun x hx => hl x (List.mem_cons_of_mem _ hx)
    rw [List.pairwise_cons] at hp
    by_cases e : rankF h = rankF g
    · have hgt : ∀ x ∈ r, rankF g < rankF x := fun x hx => by have := hp.1 x hx; omega
      obtain ⟨k1, k2, k3⟩ := gt_same hgt
      rw [giveL, if_pos ((pl_rank hh hg).2 e), give_next (by rw [withOp_bounds]; exact hg) (fun x hx => ⟨hr x hx, by rw [withOp_rank]; exact hgt x hx⟩)]
      unfold givenF sameOp
      have e1 : (h :: r).filter (fun h => decide (rankF h < rankF g)) = r.filter (fun h => decide (rankF h < rankF g)) := List.filter_cons_of_neg (p := fun h => decide (rankF h < rankF g)) (by rw [decide_eq_true_eq]; omega)
      have e2 : (h :: r).filter (fun h => decide (rankF g < rankF h)) = r.filter (fun h => decide (rankF g < rankF h)) := List.filter_cons_of_neg (p := fun h => decide (rankF g < rankF h)) (by rw [decide_eq_true_eq]; omega)
      rw [e1, e2, k1, k2, List.any_cons, k3, decide_eq_true e]
      simp
    · have hn : ¬ pl h = pl g := fun k => e ((pl_rank hh hg).1 k)
      by_cases hlt : rankF h < rankF g
      · have hb : ¬ (false = false ∧ befF (pl g) (pl h) = true) := fun k => by have := (bef_rank hg hh).1 k.2; omega
        rw [giveL, if_neg hn, if_neg hb, give_given hg hr hp.2]
        unfold givenF sameOp
        have e1 : (h :: r).filter (fun h => decide (rankF h < rankF g)) = h :: r.filter (fun h => decide (rankF h < rankF g)) := List.filter_cons_of_pos (p := fun h => decide (rankF h < rankF g)) (decide_eq_true hlt)
        have e2 : (h :: r).filter (fun h => decide (rankF g < rankF h)) = r.filter (fun h => decide (rankF g < rankF h)) := List.filter_cons_of_neg (p := fun h => decide (rankF g < rankF h)) (by rw [decide_eq_true_eq]; omega)
        rw [e1, e2, List.any_cons, decide_eq_false e]
        simp
      · have hgt : ∀ x ∈ h :: r, rankF g < rankF x := fun x hx => by
          rcases List.mem_cons.1 hx with rfl | hx
          · omega
          · have := hp.1 x hx; omega
        obtain ⟨k1, k2, k3⟩ := gt_same hgt
        rw [give_next hg (fun x hx => ⟨hl x hx, hgt x hx⟩)]
        unfold givenF sameOp
        rw [k1, k2, k3]
        obtain ⟨_, _, _, _, b, ⟨⟩⟩ := g
        simp [withOp]
end Go.Proofs.Ytmicapdbgjafnab
