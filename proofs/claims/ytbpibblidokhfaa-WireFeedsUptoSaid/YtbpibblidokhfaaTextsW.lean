/- Slices of texts: the walk of sameTexts; rows of texts of the call's own. No condition. -/
import Derived.Test.YtbpibblidokhfaaBytesW
namespace Go.Proofs.Ytbpibblidokhfaa
open Go.ChangeShapes Go.WideShapes Go.ChangeAt Go.RowKit Go.Deep

theorem SlR.strAt {w : World} {S : Nat → Prop} {A : Option Addr} {n : Nat} {xs : List ByteArray} (h : SlR cStr w S A n xs) {i : Nat} (hi : i < n) :
    ∃ b o, A = some ⟨b, o, none⟩ ∧ S b ∧ ∃ x, xs[i]? = some x ∧ w.cell? ⟨b, o + i, none⟩ = some (.string x) ∧ x.size ≤ maxLen := by
  obtain ⟨b, o, e, hb, hx⟩ := h.2 (by omega)
  have hl : i < xs.length := by have := h.1; omega
  obtain ⟨cs, hat, rfl, hw⟩ := hx i xs[i] (List.getElem?_eq_getElem hl)
  refine ⟨b, o, e, hb, xs[i], List.getElem?_eq_getElem hl, ?_, hw⟩
  have := hat 0 (.string xs[i]) rfl
  simpa [cStr] using this

theorem ownR_strs {w : World} {base : Nat} {e : TypeId} {v : Value} {n : Nat} {xs : List ByteArray} (h : w.ownsRow base e 1 v n (xs.map Value.string)) (hw : ∀ x ∈ xs, x.size ≤ maxLen) : OwnR cStr w base e v xs := by
  refine ⟨n, _, h, by have := h.1; simpa using this, fun i x hi => ?_⟩
  simp only [cStr, Nat.mul_one]
  rw [← List.map_drop, ← List.map_take]
  have : (xs.drop i).take 1 = [x] := by
    rw [List.take_one]
    simp [hi]
  rw [this]
  exact ⟨rfl, hw x (List.mem_of_getElem? hi)⟩

set_option maxHeartbeats 400000 in
theorem sameTexts_any (w : World) (v v' : Value) (xs : List ByteArray) (h : Sl cStr w v xs) (h' : Sl cStr w v' xs) (hn : xs.length ≤ 9223372036854775807) :
    Calls Try.prog 34 #[v, v'] w fun e w' => e = .returned (.bool true) ∧ ∃ m, w' = w.drewN m := by
  obtain ⟨A, n, c, rfl, hl, _, _, h⟩ := h
  obtain ⟨A', n', c', rfl, hl', _, _, h'⟩ := h'
  obtain rfl : n' = n := by omega
  have HN := Lib.hid hl
  rw [← hl] at hn
  clear hl hl'
  go_enter Try.func34, Try.ntmps34
  go_wp2
  go_loopw [13] (fun i wr => ∃ k : Nat, k ≤ n' ∧ i = .int .i64 k ∧ ∃ m, wr = w.drewN m) (fun i _ => n' - (intOf i).toNat)
  case atStart => exact ⟨0, Nat.zero_le _, rfl, 0, rfl⟩
  case round =>
    obtain ⟨k, hk, rfl, m, rfl⟩ := hrel
    by_cases hlt : k < n'
    · obtain ⟨b, o, rfl, hb, x, hx, hcell, hw⟩ := h.strAt hlt
      obtain ⟨b', o', rfl, hb', x', hx', hcell', hw'⟩ := h'.strAt hlt
      obtain rfl : x' = x := by rw [hx] at hx'; exact (Option.some.inj hx').symm
      have H := Lib.hid h
      have H' := Lib.hid h'
      clear h h' hx hx' hw hw'
      have hki : (k : Int) < (n' : Int) := by omega
      go_wp2
      go_quiet (fail)
      go_wp2
      go_roundw
      case rel => exact ⟨k + 1, by omega, by go_num, _, rfl⟩
      case measure => simp [intOf]; omega
    · clear h h'
      go_wp2
      go_ret
      exact ⟨rfl, _, rfl⟩
end Go.Proofs.Ytbpibblidokhfaa
