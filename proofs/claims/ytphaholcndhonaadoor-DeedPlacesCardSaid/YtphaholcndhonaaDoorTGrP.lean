/- Who is reached: three rounds are closed; what is closed holds all that is reached. No condition. -/
import Derived.Test.YtphaholcndhonaaDoorTGr4
namespace Go.Proofs.YtphaholcndhonaaDoor
open Go Go.RowKit Go.Proofs.YtphaholcndhonaaDoor.Ab

def bLe (a b : List Bool) : Prop := a.length = b.length ∧ ∀ i, a.getD i false = true → b.getD i false = true
theorem bLe.refl (a : List Bool) : bLe a a := ⟨rfl, fun _ h => h⟩
theorem bLe.trans {a b c : List Bool} (h : bLe a b) (k : bLe b c) : bLe a c := ⟨h.1.trans k.1, fun i hi => k.2 i (h.2 i hi)⟩
theorem set_get (a : List Bool) (k i : Nat) : (a.set k true).getD i false = if k = i ∧ i < a.length then true else a.getD i false := by
  simp only [List.getD_eq_getElem?_getD, List.getElem?_set]
  by_cases h : k = i
  · subst h
    by_cases hk : k < a.length
    · simp [hk]
    · simp [hk]
  · simp [h]
theorem set_le (a : List Bool) (k : Nat) : bLe a (a.set k true) := ⟨by simp, fun i hi => by
  rw [set_get]
  split
  · rfl
  · exact hi⟩
theorem step_le (ob rt : Int) (ins : List Bool) (g : Gr) : bLe ins (step1 ob rt ins g) := by
  unfold step1
  split
  · exact set_le _ _
  · exact .refl _
theorem round_le (ob rt : Int) : ∀ (l : List Gr) (ins : List Bool), bLe ins (round1 ob rt l ins)
  | [], ins => .refl _
  | g :: l, ins => (step_le ob rt ins g).trans (round_le ob rt l _)
theorem count_le : ∀ {a b : List Bool}, bLe a b → a.count true ≤ b.count true ∧ (a.count true = b.count true → a = b)
  | [], b, h => by
    have : b = [] := List.eq_nil_of_length_eq_zero h.1.symm
    subst this
    exact ⟨Nat.le_refl _, fun _ => rfl⟩
  | x :: a, [], h => by have := h.1; simp at this
  | x :: a, y :: b, h => by
    have h0 := h.2 0
    have ih := count_le (a := a) (b := b) ⟨by simpa using h.1, fun i hi => by simpa using h.2 (i + 1) (by simpa using hi)⟩
    simp only [List.getD_cons_zero] at h0
    cases x <;> cases y <;> simp_all
    all_goals omega
theorem closed3 (ob rt : Int) (l : List Gr) (ins : List Bool) (h3 : ins.length = 3) : round1 ob rt l (rounds ob rt l 3 ins) = rounds ob rt l 3 ins := by
  show round1 ob rt l (round1 ob rt l (round1 ob rt l (round1 ob rt l ins))) = round1 ob rt l (round1 ob rt l (round1 ob rt l ins))
  obtain ⟨r1, e1⟩ : ∃ r, r = round1 ob rt l ins := ⟨_, rfl⟩
  obtain ⟨r2, e2⟩ : ∃ r, r = round1 ob rt l r1 := ⟨_, rfl⟩
  obtain ⟨r3, e3⟩ : ∃ r, r = round1 ob rt l r2 := ⟨_, rfl⟩
  obtain ⟨r4, e4⟩ : ∃ r, r = round1 ob rt l r3 := ⟨_, rfl⟩
  have c1 := count_le (round_le ob rt l ins)
  have c2 := count_le (round_le ob rt l r1)
  have c3 := count_le (round_le ob rt l r2)
  have c4 := count_le (round_le ob rt l r3)
  rw [← e1] at c1 ⊢
  rw [← e2] at c2 ⊢
  rw [← e3] at c3 ⊢
  rw [← e4] at c4 ⊢
  have l4 : r4.length = 3 := by rw [e4, round_len, e3, round_len, e2, round_len, e1, round_len, h3]
  have hc : r4.count true ≤ 3 := by rw [← l4]; exact List.count_le_length
  by_cases k4 : r3.count true = r4.count true
  · exact (c4.2 k4).symm
  by_cases k3 : r2.count true = r3.count true
  · have e : r4 = r3 := e4.trans ((congrArg (round1 ob rt l) (c3.2 k3).symm).trans e3.symm)
    exact absurd (congrArg (List.count true) e.symm) k4
  by_cases k2 : r1.count true = r2.count true
  · have e : r3 = r2 := e3.trans ((congrArg (round1 ob rt l) (c2.2 k2).symm).trans e2.symm)
    exact absurd (congrArg (List.count true) e.symm) k3
  by_cases k1 : ins.count true = r1.count true
  · have e : r2 = r1 := e2.trans ((congrArg (round1 ob rt l) (c1.2 k1).symm).trans e1.symm)
    exact absurd (congrArg (List.count true) e.symm) k2
  omega
/-- what the grant hands on -/
def hands (ob rt : Int) (g : Gr) : Prop := g.2.2.2.2.1 = true ∧ g.2.2.1 = ob ∧ g.2.2.2.1 = rt
theorem round_takes {ob rt : Int} : ∀ {l : List Gr} {ins : List Bool} {g : Gr}, g ∈ l → hands ob rt g → ins.getD g.1.toNat false = true → g.2.1.toNat < ins.length → (round1 ob rt l ins).getD g.2.1.toNat false = true
  | [], _, _, h, _, _, _ => by cases h
  | x :: l, ins, g, h, hh, hi, hl => by
    show (round1 ob rt l (step1 ob rt ins x)).getD g.2.1.toNat false = true
    rcases List.mem_cons.1 h with rfl | h
    · refine (round_le ob rt l _).2 _ ?_
      unfold step1
      rw [if_pos ⟨hh.1, hh.2.1, hh.2.2, hi⟩, set_get, if_pos ⟨rfl, hl⟩]
    · exact round_takes h hh ((step_le ob rt ins x).2 _ hi) (by rw [step_len]; exact hl)
theorem rounds_le (ob rt : Int) (l : List Gr) : ∀ (n : Nat) (ins : List Bool), bLe ins (rounds ob rt l n ins)
  | 0, _ => .refl _
  | n + 1, ins => (round_le ob rt l ins).trans (rounds_le ob rt l n _)
/-- the owner is reached -/
theorem reach_own {l : List Gr} {u ob rt : Int} (ho : 0 ≤ ob ∧ ob < 12) (hu : u = ownF ob) : reachF l u ob rt = true := by
  obtain ⟨o1, o2⟩ := own_in ho
  refine (rounds_le ob rt l 3 (init1 ob)).2 u.toNat ?_
  rw [hu, o1, Int.toNat_natCast, init1, set_get, if_pos ⟨rfl, o2⟩]
/-- whom a reached one hands on to is reached -/
theorem reach_step {l : List Gr} {g : Gr} {ob rt : Int} (hg : g ∈ l) (hk : g.ok) (hh : hands ob rt g) (hr : reachF l g.1 ob rt = true) : reachF l g.2.1 ob rt = true := by
  show (rounds ob rt l 3 (init1 ob)).getD g.2.1.toNat false = true
  rw [← closed3 ob rt l (init1 ob) (init_len ob)]
  refine round_takes hg hh hr ?_
  rw [← (rounds_le ob rt l 3 (init1 ob)).1, init_len]
  have := hk.2.1
  omega
/-- what holds of the owner and is handed on holds of all that are reached -/
theorem reach_ind {l : List Gr} {ob rt : Int} (S : Nat → Prop) (h0 : S (ob.tdiv 4).toNat) (hs : ∀ g ∈ l, hands ob rt g → S g.1.toNat → S g.2.1.toNat) {u : Int} (hr : reachF l u ob rt = true) : S u.toNat := by
  have hround : ∀ (r : List Gr) (ins : List Bool), (∀ g ∈ r, g ∈ l) → (∀ i, ins.getD i false = true → S i) → ∀ i, (round1 ob rt r ins).getD i false = true → S i := by
    intro r
    induction r with
    | nil => intro ins _ h i hi; exact h i hi
    | cons g r ih =>
      intro ins hm h i hi
      refine ih (step1 ob rt ins g) (fun x hx => hm x (List.mem_cons_of_mem _ hx)) (fun j hj => ?_) i hi
      unfold step1 at hj
      split at hj
      · rename_i hc
        rw [set_get] at hj
        split at hj
        · rename_i he
          rw [← he.1]
          exact hs g (hm g (List.mem_cons_self ..)) ⟨hc.1, hc.2.1, hc.2.2.1⟩ (h _ hc.2.2.2)
        · exact h j hj
      · exact h j hj
  have hr0 : ∀ i, (init1 ob).getD i false = true → S i := fun i hi => by
    rw [init1, set_get] at hi
    split at hi
    · rename_i he
      rw [← he.1]
      exact h0
    · match i with
      | 0 => cases hi
      | 1 => cases hi
      | 2 => cases hi
      | i + 3 => simp at hi
  exact hround l _ (fun _ h => h) (hround l _ (fun _ h => h) (hround l _ (fun _ h => h) hr0)) u.toNat hr
end Go.Proofs.YtphaholcndhonaaDoor
