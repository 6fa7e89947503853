/- The walks of value.truth, Not, And, Or and of the reference's Logic, Opposite, isTruth. No condition. -/
import Derived.Test.YtbpibblidokhfaaBase
import Derived.WalkLawsBesides
import Derived.WalkSpells
namespace Go.Proofs.Ytbpibblidokhfaa
open Go.ChangeShapes Go.WideShapes Go.ChangeAt Go.RowKit Go.Deep

/-- what value.truth answers -/
def truthOf (xs : List Int) : Int := if xs.all (fun x => 0 ≤ x ∧ x ≤ 2) then 0 else 2

theorem SlR.intAt {k : IntKind} {w : World} {B : Nat} {A : Option Addr} {n : Nat} {xs : List Int} (h : SlR (cInt k) w B A n xs) {i : Nat} (hi : i < n) :
    ∃ b o, A = some ⟨b, o, none⟩ ∧ b < B ∧ ∃ x, xs[i]? = some x ∧ w.cell? ⟨b, o + i, none⟩ = some (.int k x) ∧ (Lit.int k x).wf = true := by
  obtain ⟨b, o, e, hb, hx⟩ := h.2 (by omega)
  have hl : i < xs.length := by have := h.1; omega
  obtain ⟨cs, hat, rfl, hw⟩ := hx i xs[i] (List.getElem?_eq_getElem hl)
  refine ⟨b, o, e, hb, xs[i], List.getElem?_eq_getElem hl, ?_, hw⟩
  have := hat 0 (.int k xs[i]) rfl
  simpa [cInt] using this

theorem truthOf_bad {xs : List Int} {k : Nat} {x : Int} (hx : xs[k]? = some x) (h : ¬ (0 ≤ x ∧ x ≤ 2)) : truthOf xs = 2 := by
  unfold truthOf
  rw [if_neg]
  intro hh
  have := List.all_eq_true.1 hh x (List.mem_of_getElem? hx)
  simp at this
  omega

set_option maxHeartbeats 400000 in
theorem truth_any (w : World) (B : Nat) (A : Option Addr) (n c : Nat) (xs : List Int) (h : SlR (cInt .i64) w B A n xs) (hn : n ≤ 1000000) :
    Calls Try.prog 46 #[.slice A n c] w fun e w' => e = .returned (.int .i64 (truthOf xs)) ∧ w = w' := by
  go_enter Try.func46, Try.ntmps46
  go_wp2
  go_loop [7] (fun i => ∃ k : Nat, k ≤ n ∧ i = .int .i64 k ∧ (xs.take k).all (fun x => 0 ≤ x ∧ x ≤ 2) = true) (fun i => n - (intOf i).toNat)
  case atStart => exact ⟨0, Nat.zero_le _, rfl, rfl⟩
  case round =>
    obtain ⟨k, hk, rfl, hall⟩ := hrel
    by_cases hlt : k < n
    · obtain ⟨b, o, rfl, hb, x, hx, hcell, hw⟩ := h.intAt hlt
      have hs : (xs.take (k + 1)) = xs.take k ++ [x] := by
        rw [List.take_add_one, hx]; rfl
      have H := Lib.hid h
      have HX := Lib.hid hx
      have HS := Lib.hid hs
      have HA := Lib.hid hall
      clear h hx hs hall
      by_cases h0 : 0 ≤ x
      · by_cases h2 : x ≤ 2
        · go_wp2
          go_round
          case rel => exact ⟨k + 1, by omega, by go_num, by rw [HS.out, List.all_append, HA.out]; simp [h0, h2]⟩
          case measure => simp [intOf]; omega
        · go_wp2
          go_ret
          exact ⟨by rw [truthOf_bad HX.out (by omega)]; rfl, rfl⟩
      · go_wp2
        go_ret
        exact ⟨by rw [truthOf_bad HX.out (by omega)]; rfl, rfl⟩
    · have hl := h.1
      have HL := Lib.hid hl
      have HA := Lib.hid hall
      clear h hl hall
      go_wp2
      go_ret
      have he : truthOf xs = 0 := by
        have := HA.out
        rw [List.take_of_length_le (by have := HL.out; omega)] at this
        unfold truthOf
        rw [if_pos this]
      exact ⟨by rw [he]; rfl, rfl⟩

theorem slR_lit {k : IntKind} (w : World) (t : TypeId) (xs : List Int) (hw : ∀ x ∈ xs, (Lit.int k x).wf = true) :
    SlR (cInt k) (w.alloc (.cells (xs.map (Value.int k)).toArray t)) (w.heap.size + 1) (some ⟨w.heap.size, 0, none⟩) xs.length xs := by
  refine ⟨rfl, fun _ => ⟨_, _, rfl, by omega, fun i x hi => ⟨[.int k x], fun j u hu => ?_, rfl, hw x (List.mem_of_getElem? hi)⟩⟩⟩
  cases j with
  | succ j => simp at hu
  | zero =>
    simp at hu
    subst hu
    rw [cell_of_row _ _ _ _ _ _ (heap_alloc_new w _)]
    simp [cInt, hi]

set_option maxHeartbeats 400000 in
theorem not_any (x : Int) (w : World) (hx : (Lit.int .i64 x).wf = true) :
    Calls Try.prog 18 #[.int .i64 x] w fun e w' => e = .returned (.tuple #[.int .i64 (if 0 ≤ x ∧ x ≤ 2 then 2 - x else 0), .int .i64 (if 0 ≤ x ∧ x ≤ 2 then 0 else 2)]) ∧ Below w.heap.size w w' := by
  have hS := slR_lit (k := .i64) w 3 [x] (by simpa using hx)
  have hT : truthOf [x] = if 0 ≤ x ∧ x ≤ 2 then 0 else 2 := by unfold truthOf; simp
  by_cases h : 0 ≤ x ∧ x ≤ 2
  · rw [if_pos h] at hT
    obtain ⟨h0, h2⟩ := h
    have HS := Lib.hid hS
    have HT := Lib.hid hT
    clear hS hT
    go_enter Try.func18, Try.ntmps18
    go_wp2_with fail
    refine (truth_any _ _ _ _ _ [x] HS.out (by simp)).mono ?_
    rintro e w' ⟨rfl, rfl⟩
    rw [HT.out]
    go_wp2
    go_ret2
    exact ⟨by simp [h0, h2], (Below.refl _ _).alloc (Nat.le_refl _) _⟩
  · rw [if_neg h] at hT
    have HS := Lib.hid hS
    have HT := Lib.hid hT
    clear hS hT
    go_enter Try.func18, Try.ntmps18
    go_wp2_with fail
    refine (truth_any _ _ _ _ _ [x] HS.out (by simp)).mono ?_
    rintro e w' ⟨rfl, rfl⟩
    rw [HT.out]
    go_wp2
    go_ret2
    exact ⟨by simp [h], (Below.refl _ _).alloc (Nat.le_refl _) _⟩

set_option maxHeartbeats 400000 in
theorem opposite_any (x : Int) (w : World) :
    Calls Try.prog 19 #[.int .i64 x] w fun e w' => e = .returned (.tuple #[.int .i64 (if 0 ≤ x ∧ x ≤ 2 then 2 - x else 0), .int .i64 (if 0 ≤ x ∧ x ≤ 2 then 0 else 2)]) ∧ w = w' := by
  by_cases h0 : x = 0
  · subst h0
    go_enter Try.func19, Try.ntmps19
    go_wp2
    go_ret2
    exact ⟨rfl, rfl⟩
  · by_cases h2 : x = 2
    · subst h2
      go_enter Try.func19, Try.ntmps19
      go_wp2
      go_ret2
      exact ⟨rfl, rfl⟩
    · by_cases h1 : x = 1
      · subst h1
        go_enter Try.func19, Try.ntmps19
        go_wp2
        go_ret2
        exact ⟨rfl, rfl⟩
      · have hv : ¬ (0 ≤ x ∧ x ≤ 2) := by omega
        go_enter Try.func19, Try.ntmps19
        go_wp2
        go_ret2
        exact ⟨by simp [hv], rfl⟩
end Go.Proofs.Ytbpibblidokhfaa
