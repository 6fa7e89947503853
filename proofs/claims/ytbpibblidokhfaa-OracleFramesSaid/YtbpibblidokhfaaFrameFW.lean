/- The walks of oracle.Frame and of the reference's FrameOf: refused, or a frame's bytes. No condition. -/
import Derived.Test.YtbpibblidokhfaaFramesW
namespace Go.Proofs.Ytbpibblidokhfaa
open Go.ChangeShapes Go.WideShapes Go.ChangeAt Go.RowKit Go.Deep

/-! ### the plain law -/
def sumL : List (List UInt8) → Nat
  | [] => 0
  | p :: l => p.length + sumL l
theorem sumL_app (l m : List (List UInt8)) : sumL (l ++ m) = sumL l + sumL m := by
  induction l with
  | nil => simp [sumL]
  | cons p l ih => simp only [List.cons_append, sumL, ih]; omega
theorem sumL_snoc (l : List (List UInt8)) (k : Nat) (p : List UInt8) (h : l[k]? = some p) : sumL (l.take (k + 1)) = sumL (l.take k) + p.length := by
  rw [List.take_add_one, h, sumL_app]
  simp [sumL]
theorem sumL_take (l : List (List UInt8)) (k : Nat) : sumL (l.take k) ≤ sumL l := by
  have h := sumL_app (l.take k) (l.drop k)
  rw [List.take_append_drop] at h
  omega
theorem partsL_len (l : List (List UInt8)) : (partsL l).length = sumL l + 4 * l.length := by
  induction l with
  | nil => rfl
  | cons p l ih =>
    have : partsL (p :: l) = bigL p.length 4 ++ p ++ partsL l := by unfold partsL; rw [List.flatMap_cons]
    rw [this, List.length_append, List.length_append, bigL_len, ih, List.length_cons]
    show _ = p.length + sumL l + _
    omega
def frameF (tag : Int) (l : List (List UInt8)) : Int := if tag < 1 ∨ 9 < tag then 6 else if 8 < l.length then 1 else if 16777216 < 2 + sumL l + 4 * l.length then 1 else 0
def frameV (tag : Int) (l : List (List UInt8)) : List UInt8 := if frameF tag l = 0 then frameL tag l else []
theorem frameF_tag {tag : Int} {l : List (List UInt8)} (h : tag < 1 ∨ 9 < tag) : frameF tag l = 6 := by unfold frameF; rw [if_pos h]
theorem frameF_many {tag : Int} {l : List (List UInt8)} (h : ¬ (tag < 1 ∨ 9 < tag)) (h8 : 8 < l.length) : frameF tag l = 1 := by unfold frameF; rw [if_neg h, if_pos h8]
theorem frameF_big {tag : Int} {l : List (List UInt8)} (h : ¬ (tag < 1 ∨ 9 < tag)) (hs : 16777216 < 2 + sumL l + 4 * l.length) : frameF tag l = 1 := by
  unfold frameF; rw [if_neg h]; split
  · rfl
  · rfl
theorem frameF_ok {tag : Int} {l : List (List UInt8)} (h : ¬ (tag < 1 ∨ 9 < tag)) (h8 : ¬ 8 < l.length) (hs : ¬ 16777216 < 2 + sumL l + 4 * l.length) : frameF tag l = 0 := by
  unfold frameF; rw [if_neg h, if_neg h8, if_neg hs]

/-- refused, or the frame -/
def Framed (tag : Int) (l : List (List UInt8)) (W : World) (e : Ending) (w' : World) : Prop :=
  Below W.heap.size W w' ∧ ∃ v, e = .returned (.tuple #[v, .int .i64 (frameF tag l)]) ∧ Sl cByte w' v (frameV tag l)
theorem Framed.bad {tag : Int} {l : List (List UInt8)} {W w' : World} {e : Ending} {f : Int} (hf : frameF tag l = f) (h0 : f ≠ 0) (hb : Below W.heap.size W w') (he : e = .returned (.tuple #[.slice none 0 0, .int .i64 f])) : Framed tag l W e w' := by
  subst hf
  exact ⟨hb, _, he, by unfold frameV; rw [if_neg h0]; exact Sl.nil _ _⟩
theorem Framed.good {tag : Int} {l : List (List UInt8)} {W w' : World} {e : Ending} {v : Value} (hf : frameF tag l = 0) (hb : Below W.heap.size W w') (he : e = .returned (.tuple #[v, .int .i64 0])) (hs : Sl cByte w' v (frameL tag l)) : Framed tag l W e w' := by
  refine ⟨hb, v, by rw [hf]; exact he, ?_⟩
  unfold frameV
  rw [if_pos hf]
  exact hs

set_option maxRecDepth 100000 in
set_option maxHeartbeats 800000 in
theorem Frame_any (W : World) (tag : Int) (A : Option Addr) (n c : Nat) (l : List (List UInt8)) (h : SlR (cSlice cByte) W (lt W.heap.size) A n l) :
    Calls Try.prog 40 #[.int .i64 tag, .slice A n c] W (Framed tag l W) := by
  have hl := h.1
  by_cases h1 : tag < 1
  · have HF := Lib.hid (frameF_tag (l := l) (.inl h1))
    clear hl h
    go_enter Try.func40, Try.ntmps40
    go_wp2
    go_ret2
    exact Framed.bad HF.out (by decide) (Below.refl _ _) rfl
  · by_cases h9 : 9 < tag
    · have HF := Lib.hid (frameF_tag (l := l) (.inr h9))
      clear hl h
      go_enter Try.func40, Try.ntmps40
      go_wp2
      go_ret2
      exact Framed.bad HF.out (by decide) (Below.refl _ _) rfl
    · have HT := Lib.hid (show ¬ (tag < 1 ∨ 9 < tag) from by omega)
      by_cases h8 : 8 < n
      · have HF := Lib.hid (frameF_many (l := l) HT.out (by omega))
        clear hl h
        go_enter Try.func40, Try.ntmps40
        go_wp2
        go_ret2
        exact Framed.bad HF.out (by decide) (Below.refl _ _) rfl
      · have HN := Lib.hid hl
        clear hl
        have hn8 : n ≤ 8 := by omega
        go_enter Try.func40, Try.ntmps40
        go_wp2
        go_loop [6, 20] (fun v i => ∃ k : Nat, k ≤ n ∧ i = .int .i64 k ∧ v = .int .i64 (2 + sumL (l.take k) + 4 * k : Nat) ∧ sumL (l.take k) ≤ 16777216 * k) (fun _ i => n - (intOf i).toNat)
        case atStart => exact ⟨0, Nat.zero_le _, rfl, rfl, by simp [sumL]⟩
        case round =>
          obtain ⟨k, hk, rfl, rfl, hsm⟩ := hrel
          by_cases hlt : k < n
          · obtain ⟨b, o, rfl, hb, p, hx, B, m, cc, hcell, hmc, hcm, hs⟩ := h.bytesAt hlt
            have HS := Lib.hid (sumL_snoc l k p hx)
            have HLE := Lib.hid (sumL_take l (k + 1))
            have HM := Lib.hid hs.1
            have H := Lib.hid h
            clear h hx hs
            by_cases hbig : 16777216 < m
            · have HF := Lib.hid (frameF_big (l := l) HT.out (by have := HS.out; have := HLE.out; have := HM.out; omega))
              go_wp2
              go_ret2
              exact Framed.bad HF.out (by decide) (Below.refl _ _) rfl
            · generalize sumL (l.take k) = s at hsm HS ⊢
              go_wp2
              go_round
              case rel => exact ⟨k + 1, by omega, by go_num, congrArg (Value.int .i64) (by rw [HS.out, HM.out]; omega), by rw [HS.out, HM.out]; omega⟩
              case measure => simp [intOf]; omega
          · obtain rfl : k = n := by omega
            have he : l.take k = l := List.take_of_length_le (by have := HN.out; omega)
            rw [he] at hsm ⊢
            have HL := Lib.hid (partsL_len l)
            by_cases hbig : 16777216 < 2 + sumL l + 4 * k
            · have HF := Lib.hid (frameF_big (l := l) HT.out (by have := HN.out; omega))
              clear h he
              go_wp2
              go_ret2
              exact Framed.bad HF.out (by decide) (Below.refl _ _) rfl
            · have HF := Lib.hid (frameF_ok (l := l) HT.out (by have := HN.out; omega) (by have := HN.out; omega))
              have HC := Lib.hid (frame_any W tag A k c l h (by have := HL.out; have := HN.out; omega) (by omega))
              clear h he
              go_wp2_with fail
              refine HC.out.mono ?_
              rintro e w' ⟨v, rfl, hs, hb⟩
              have HV := Lib.hid hs
              clear hs
              go_wp2
              go_ret2
              exact Framed.good HF.out hb rfl HV.out

set_option maxRecDepth 100000 in
set_option maxHeartbeats 800000 in
theorem FrameOf_any (W : World) (tag : Int) (A : Option Addr) (n c : Nat) (l : List (List UInt8)) (h : SlR (cSlice cByte) W (lt W.heap.size) A n l) :
    Calls Try.prog 41 #[.int .i64 tag, .slice A n c] W (Framed tag l W) := by
  have hl := h.1
  by_cases h1 : tag < 1
  · have HF := Lib.hid (frameF_tag (l := l) (.inl h1))
    clear hl h
    go_enter Try.func41, Try.ntmps41
    go_wp2
    go_ret2
    exact Framed.bad HF.out (by decide) (Below.refl _ _) rfl
  · by_cases h9 : 9 < tag
    · have HF := Lib.hid (frameF_tag (l := l) (.inr h9))
      clear hl h
      go_enter Try.func41, Try.ntmps41
      go_wp2
      go_ret2
      exact Framed.bad HF.out (by decide) (Below.refl _ _) rfl
    · have HT := Lib.hid (show ¬ (tag < 1 ∨ 9 < tag) from by omega)
      by_cases h8 : 8 < n
      · have HF := Lib.hid (frameF_many (l := l) HT.out (by omega))
        clear hl h
        go_enter Try.func41, Try.ntmps41
        go_wp2
        go_ret2
        exact Framed.bad HF.out (by decide) (Below.refl _ _) rfl
      · have HN := Lib.hid hl
        clear hl
        have hn8 : n ≤ 8 := by omega
        go_enter Try.func41, Try.ntmps41
        go_wp2
        go_loop [6, 24] (fun v i => ∃ k : Nat, k ≤ n ∧ i = .int .i64 k ∧ v = .int .i64 (16777214 - 4 * (n : Int) - (sumL (l.take k) : Int)) ∧ sumL (l.take k) + 4 * n ≤ 16777214) (fun _ i => n - (intOf i).toNat)
        case atStart => exact ⟨0, Nat.zero_le _, rfl, congrArg (Value.int .i64) (by simp [sumL]), by simp [sumL]; omega⟩
        case round =>
          obtain ⟨k, hk, rfl, rfl, hsm⟩ := hrel
          by_cases hlt : k < n
          · obtain ⟨b, o, rfl, hb, p, hx, B, m, cc, hcell, hmc, hcm, hs⟩ := h.bytesAt hlt
            have HS := Lib.hid (sumL_snoc l k p hx)
            have HLE := Lib.hid (sumL_take l (k + 1))
            have HM := Lib.hid hs.1
            have H := Lib.hid h
            clear h hx hs
            by_cases hbig : 16777214 < sumL (l.take k) + 4 * n + m
            · have HF := Lib.hid (frameF_big (l := l) HT.out (by have := HS.out; have := HLE.out; have := HM.out; have := HN.out; omega))
              generalize sumL (l.take k) = s at hsm hbig HS ⊢
              have hm2 : (16777214 : Int) - 4 * (n : Int) - (s : Int) < (m : Int) := by omega
              go_wp2
              go_ret2
              exact Framed.bad HF.out (by decide) (Below.refl _ _) rfl
            · generalize sumL (l.take k) = s at hsm hbig HS ⊢
              have hm2 : (m : Int) ≤ (16777214 : Int) - 4 * (n : Int) - (s : Int) := by omega
              go_wp2
              go_round
              case rel => exact ⟨k + 1, by omega, by go_num, congrArg (Value.int .i64) (by rw [HS.out, HM.out]; omega), by rw [HS.out, HM.out]; omega⟩
              case measure => simp [intOf]; omega
          · obtain rfl : k = n := by omega
            have he : l.take k = l := List.take_of_length_le (by have := HN.out; omega)
            rw [he] at hsm ⊢
            have HL := Lib.hid (partsL_len l)
            have HF := Lib.hid (frameF_ok (l := l) HT.out (by have := HN.out; omega) (by have := HN.out; omega))
            have HC := Lib.hid (framed_any W tag A k c l h (by have := HL.out; have := HN.out; omega) (by omega))
            have HZ := Lib.hid (show (frameL tag l).length ≤ maxLen from by
              have := HL.out
              have := HN.out
              unfold frameL maxLen
              simp only [List.length_cons]
              omega)
            clear h he
            go_wp2_with fail
            refine HC.out.mono ?_
            rintro e w' ⟨rfl, hb⟩
            go_wp2
            go_ret2
            exact Framed.good HF.out (hb.trans ((bytesWorld_below _ _ _).mono hb.size)) rfl (bytesWorld_sl _ _ _ HZ.out)
end Go.Proofs.Ytbpibblidokhfaa
