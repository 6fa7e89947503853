/- The walk of SplitShares: it returns true, and nothing that was there is turned. -/
import Derived.Test.YtbpibblidokhfaaMem
namespace Go.Proofs.Ytbpibblidokhfaa
open Go.ChangeShapes Go.WideShapes Go.ChangeAt Go.RowKit Go.Deep

set_option maxHeartbeats 400000 in
theorem sameInts_any (w : World) (S : Nat → Prop) (A A' : Option Addr) (n c c' : Nat) (xs : List Int) (h : SlR (cInt .i64) w S A n xs) (h' : SlR (cInt .i64) w S A' n xs) (hn : n ≤ 9223372036854775807) :
    Calls Try.prog 27 #[.slice A n c, .slice A' n c'] w fun e w' => e = .returned (.bool true) ∧ ∃ m, w' = w.drewN m := by
  go_enter Try.func27, Try.ntmps27
  go_wp2
  go_loopw [13] (fun i wr => ∃ k : Nat, k ≤ n ∧ i = .int .i64 k ∧ ∃ m, wr = w.drewN m) (fun i _ => n - (intOf i).toNat)
  case atStart => exact ⟨0, Nat.zero_le _, rfl, 0, rfl⟩
  case round =>
    obtain ⟨k, hk, rfl, m, rfl⟩ := hrel
    by_cases hlt : k < n
    · obtain ⟨b, o, rfl, hb, x, hx, hcell, hw⟩ := h.intAt hlt
      obtain ⟨b', o', rfl, hb', x', hx', hcell', hw'⟩ := h'.intAt hlt
      obtain rfl : x' = x := by rw [hx] at hx'; exact (Option.some.inj hx').symm
      have H := Lib.hid h
      have H' := Lib.hid h'
      clear h h' hx hx' hw hw'
      have hki : (k : Int) < (n : Int) := by omega
      go_wp2
      go_quiet (fail)
      go_wp2
      go_roundw
      case rel => exact ⟨k + 1, by omega, by go_num, _, rfl⟩
      case measure => simp [intOf]; omega
    · clear h h'
      go_wp2
      go_ret
      exact ⟨rfl, _, rfl⟩

/-! ### the plain law -/
def shAt (n w : Int) (i : Nat) : Int := (i : Int) * (n / w) + min (i : Int) (n % w)
def shs (n w : Int) (k : Nat) : List Int := (List.range k).map (shAt n w)

theorem shAt_zero (n w : Int) (hn : 0 ≤ n) (hw : 1 ≤ w) : shAt n w 0 = 0 := by
  have := Int.emod_nonneg n (show w ≠ 0 by omega)
  unfold shAt
  simp
  omega
theorem shAt_succ (n w : Int) (i : Nat) : shAt n w (i + 1) = if (i : Int) < n % w then shAt n w i + (n / w + 1) else shAt n w i + n / w := by
  unfold shAt
  have : ((i + 1 : Nat) : Int) * (n / w) = (i : Int) * (n / w) + n / w := by rw [Int.natCast_add, Int.add_mul]; simp
  rw [this]
  split <;> omega
theorem shAt_bd (n w : Int) (i : Nat) (hn : 0 ≤ n) (hn' : n ≤ 64) (hw : 1 ≤ w) : 0 ≤ shAt n w i ∧ shAt n w i ≤ 65 * i ∧ 0 ≤ n / w ∧ n / w ≤ 64 ∧ 0 ≤ n % w := by
  have h1 := Int.emod_nonneg n (show w ≠ 0 by omega)
  have h2 := Int.ediv_nonneg hn (show 0 ≤ w by omega)
  have h3 : n / w ≤ 64 := Int.le_trans (Int.ediv_le_self w hn) hn'
  refine ⟨?_, ?_, h2, h3, h1⟩
  · induction i with
    | zero => rw [shAt_zero n w hn hw]; omega
    | succ i ih => rw [shAt_succ]; split <;> omega
  · induction i with
    | zero => rw [shAt_zero n w hn hw]; omega
    | succ i ih => rw [shAt_succ]; split <;> omega
theorem shs_succ (n w : Int) (k : Nat) : shs n w (k + 1) = shs n w k ++ [shAt n w k] := by
  unfold shs
  rw [List.range_succ, List.map_append]
  rfl
theorem shs_len (n w : Int) (k : Nat) : (shs n w k).length = k := by simp [shs]
theorem wf_small (x : Int) (h : 0 ≤ x) (h' : x ≤ 1000000) : (Lit.int .i64 x).wf = true := by
  simp [Lit.wf, IntKind.min, IntKind.max, IntKind.signed, IntKind.bits]
  omega
theorem shs_wf (n w : Int) (k : Nat) (hn : 0 ≤ n) (hn' : n ≤ 64) (hw : 1 ≤ w) (hk : k ≤ 100) : ∀ x ∈ shs n w k, (Lit.int .i64 x).wf = true := by
  intro x hx
  obtain ⟨i, hi, rfl⟩ := List.mem_map.1 hx
  have := shAt_bd n w i hn hn' hw
  have := List.mem_range.1 hi
  exact wf_small _ (by omega) (by omega)

theorem infoInt : (Try.prog.info? 3).map (fun i => (i.zero, i.size, i.bytes)) = some (some (.int .i64 0), 1, 8) := by kernel_rfl

/-- refused, or the shares -/
def Shared (n w : Int) (W : World) (e : Ending) (w' : World) : Prop :=
  Below W.heap.size W w' ∧ ∃ v f, e = .returned (.tuple #[v, .int .i64 f]) ∧ f = (if n < 0 ∨ 64 < n then 1 else if w < 1 ∨ 8 < w then 6 else 0) ∧
    OwnR (cInt .i64) w' W.heap.size 3 v (if n < 0 ∨ 64 < n ∨ w < 1 ∨ 8 < w then [] else shs n w (w.toNat + 1))

theorem ownR_none {α : Type} (c : Cd α) (w : World) (base : Nat) (e : TypeId) : OwnR c w base e (.slice none 0 0) [] := ⟨0, [], World.ownsRow_nil _ _ _ _, rfl, fun i x h => by simp at h⟩

set_option maxRecDepth 100000 in
set_option maxHeartbeats 800000 in
theorem share_any (n w : Int) (W : World) : Calls Try.prog 25 #[.int .i64 n, .int .i64 w] W (Shared n w W) := by
  by_cases h1 : n < 0
  · go_enter Try.func25, Try.ntmps25
    go_wp2
    go_ret2
    exact ⟨Below.refl _ _, _, _, rfl, by simp [h1], by simpa [h1] using ownR_none _ _ _ _⟩
  · by_cases h2 : 64 < n
    · go_enter Try.func25, Try.ntmps25
      go_wp2
      go_ret2
      exact ⟨Below.refl _ _, _, _, rfl, by simp [h2], by simpa [h2] using ownR_none _ _ _ _⟩
    · by_cases h3 : w < 1
      · go_enter Try.func25, Try.ntmps25
        go_wp2
        go_ret2
        exact ⟨Below.refl _ _, _, _, rfl, by simp [h1, h2, h3], by simpa [h3] using ownR_none _ _ _ _⟩
      · by_cases h4 : 8 < w
        · go_enter Try.func25, Try.ntmps25
          go_wp2
          go_ret2
          exact ⟨Below.refl _ _, _, _, rfl, by simp [h1, h2, h4], by simpa [h4] using ownR_none _ _ _ _⟩
        · have hn0 : 0 ≤ n := by omega
          have hn64 : n ≤ 64 := by omega
          have hw1 : 1 ≤ w := by omega
          have hw8 : w ≤ 8 := by omega
          clear h1 h2 h3 h4
          obtain ⟨wn, rfl⟩ := Int.eq_ofNat_of_zero_le (show 0 ≤ w by omega)
          obtain ⟨i0, hi, hz0, hz1, hz2⟩ := info_parts infoInt
          go_enter Try.func25, Try.ntmps25
          go_wp2
          go_loopw [6, 23] (fun v i wr => ∃ k : Nat, k ≤ wn ∧ i = .int .i64 k ∧ wr.ownsRow W.heap.size 3 1 v (k + 1) ((shs n wn (k + 1)).map (Value.int .i64)) ∧ Below W.heap.size W wr) (fun _ i _ => wn - (intOf i).toNat)
          case atStart =>
            refine ⟨0, Nat.zero_le _, rfl, ?_, (Below.refl _ _).alloc (Nat.le_refl _) _⟩
            have := World.ownsRow_lit (base := W.heap.size) (e := 3) (size := 1) W #[.int .i64 0] 1 (Nat.le_refl _) (by unfold maxLen; omega) rfl
            rw [shs_succ, shAt_zero n wn hn0 hw1]
            simpa [shs] using this
          case round =>
            obtain ⟨k, hk, rfl, hown, hbel⟩ := hrel
            by_cases hlt : k < wn
            · obtain ⟨g, cap, rfl, hg, hgl⟩ := hown.form (by omega)
              have hcell := hown.cellAt k (by omega)
              have hx : ((shs n wn (k + 1)).map (Value.int .i64))[k]? = some (.int .i64 (shAt n wn k)) := by
                rw [List.getElem?_map, shs_succ, List.getElem?_append_right (by rw [shs_len]; omega), shs_len]
                simp
              rw [hx] at hcell
              clear hx
              have hsucc := shAt_succ n wn k
              have hbd := shAt_bd n wn k hn0 hn64 hw1
              obtain ⟨hb1, hb2, hb3, hb4, hb5⟩ := hbd
              have HL := Lib.hid (shs_succ n wn (k + 1))
              have hkw : (k : Int) < wn := by omega
              have HO := Lib.hid hown
              have hb2' : shAt n wn k ≤ 1000 := by omega
              clear hown hb2
              by_cases hr : (k : Int) < n % wn
              · rw [if_pos hr] at hsucc
                have HS := Lib.hid hsucc
                clear hsucc
                go_wp2_with (at_builtin; refine wpList_app _ rfl (.tmp 36) (.tmp 43) _ _ rfl W.heap.size 3 i0 (.int .i64 0) 1 8 Try.underlying61 hi hz0 hz1 hz2 rfl (by decide) _ _ _ rfl (HO.out.alloc _) _ 1 [.int .i64 (shAt n wn k + (n / wn + 1))] rfl ?c2 ?c3 ?c4 ?c5 ?_)
                case c2 => exact src_new _ Try.underlying61 1 1 _ rfl (by intro u hu; simp at hu; subst hu; rfl)
                case c3 => unfold maxLen; omega
                case c4 => omega
                case c5 => have := hbel.size; simp; omega
                · intro v' w1 hown' hgrow hat
                  have hb' : Below W.heap.size W w1 := (hbel.alloc hbel.size _).grown hgrow (by have := hbel.size; simp; omega) (fun q hq => by simp [Value.ownBlock] at hq; omega)
                  clear hgrow hat
                  have HO' := Lib.hid hown'
                  clear hown'
                  go_wp2
                  go_roundw
                  case rel => exact ⟨k + 1, by omega, by go_num, by rw [HL.out, HS.out, List.map_append]; exact HO'.out, hb'⟩
                  case measure => simp [intOf]; omega
              · rw [if_neg hr] at hsucc
                have HS := Lib.hid hsucc
                clear hsucc
                go_wp2_with (at_builtin; refine wpList_app _ rfl (.tmp 36) (.tmp 43) _ _ rfl W.heap.size 3 i0 (.int .i64 0) 1 8 Try.underlying61 hi hz0 hz1 hz2 rfl (by decide) _ _ _ rfl (HO.out.alloc _) _ 1 [.int .i64 (shAt n wn k + n / wn)] rfl ?d2 ?d3 ?d4 ?d5 ?_)
                case d2 => exact src_new _ Try.underlying61 1 1 _ rfl (by intro u hu; simp at hu; subst hu; rfl)
                case d3 => unfold maxLen; omega
                case d4 => omega
                case d5 => have := hbel.size; simp; omega
                · intro v' w1 hown' hgrow hat
                  have hb' : Below W.heap.size W w1 := (hbel.alloc hbel.size _).grown hgrow (by have := hbel.size; simp; omega) (fun q hq => by simp [Value.ownBlock] at hq; omega)
                  clear hgrow hat
                  have HO' := Lib.hid hown'
                  clear hown'
                  go_wp2
                  go_roundw
                  case rel => exact ⟨k + 1, by omega, by go_num, by rw [HL.out, HS.out, List.map_append]; exact HO'.out, hb'⟩
                  case measure => simp [intOf]; omega
            · obtain rfl : k = wn := by omega
              have HO := Lib.hid hown
              clear hown
              go_wp2
              go_ret2
              refine ⟨hbel, _, _, rfl, by rw [if_neg (by omega), if_neg (by omega)], ?_⟩
              rw [if_neg (by omega)]
              exact ownR_ints HO.out (shs_wf n k _ hn0 hn64 hw1 (by omega))
set_option maxRecDepth 100000 in
set_option maxHeartbeats 800000 in
theorem sharesOf_any (n w : Int) (W : World) : Calls Try.prog 26 #[.int .i64 n, .int .i64 w] W (Shared n w W) := by
  by_cases h1 : n < 0
  · go_enter Try.func26, Try.ntmps26
    go_wp2
    go_ret2
    exact ⟨Below.refl _ _, _, _, rfl, by simp [h1], by simpa [h1] using ownR_none _ _ _ _⟩
  · by_cases h2 : 64 < n
    · go_enter Try.func26, Try.ntmps26
      go_wp2
      go_ret2
      exact ⟨Below.refl _ _, _, _, rfl, by simp [h2], by simpa [h2] using ownR_none _ _ _ _⟩
    · by_cases h3 : w < 1
      · go_enter Try.func26, Try.ntmps26
        go_wp2
        go_ret2
        exact ⟨Below.refl _ _, _, _, rfl, by simp [h1, h2, h3], by simpa [h3] using ownR_none _ _ _ _⟩
      · by_cases h4 : 8 < w
        · go_enter Try.func26, Try.ntmps26
          go_wp2
          go_ret2
          exact ⟨Below.refl _ _, _, _, rfl, by simp [h1, h2, h4], by simpa [h4] using ownR_none _ _ _ _⟩
        · have hn0 : 0 ≤ n := by omega
          have hn64 : n ≤ 64 := by omega
          have hw1 : 1 ≤ w := by omega
          have hw8 : w ≤ 8 := by omega
          clear h1 h2 h3 h4
          obtain ⟨wn, rfl⟩ := Int.eq_ofNat_of_zero_le (show 0 ≤ w by omega)
          obtain ⟨i0, hi, hz0, hz1, hz2⟩ := info_parts infoInt
          go_enter Try.func26, Try.ntmps26
          go_wp2
          go_loopw [6, 7] (fun v i wr => ∃ k : Nat, k ≤ wn + 1 ∧ i = .int .i64 k ∧ wr.ownsRow W.heap.size 3 1 v k ((shs n wn k).map (Value.int .i64)) ∧ Below W.heap.size W wr) (fun _ i _ => wn + 1 - (intOf i).toNat)
          case atStart =>
            exact ⟨0, Nat.zero_le _, rfl, World.ownsRow_nil _ _ _ _, Below.refl _ _⟩
          case round =>
            obtain ⟨k, hk, rfl, hown, hbel⟩ := hrel
            by_cases hlt : k < wn + 1
            · have hbd := shAt_bd n wn k hn0 hn64 hw1
              obtain ⟨hb1, hb2, hb3, hb4, hb5⟩ := hbd
              have hE := Lib.hid (show shAt n wn k = (k : Int) * (n / wn) + min (k : Int) (n % wn) from rfl)
              have hp0 : 0 ≤ (k : Int) * (n / wn) := Int.mul_nonneg (by omega) hb3
              have hp1 : (k : Int) * (n / wn) ≤ 1000 := by
                have : (k : Int) * (n / wn) ≤ (k : Int) * 64 := Int.mul_le_mul_of_nonneg_left hb4 (by omega)
                omega
              have HL := Lib.hid (shs_succ n wn k)
              have hkw : (k : Int) ≤ wn := by omega
              have HO := Lib.hid hown
              have hb2' : shAt n wn k ≤ 1000 := by omega
              clear hown hb2
              go_wp2
              have hw0 : ¬ wn = 0 := by omega
              have e1 := IntWalk.i64_quo n wn (by omega)
              have e2 := IntWalk.i64_in ((k : Int) * (n / wn)) (by omega)
              have e3 := IntWalk.rem_in n wn hn0
              have HV := Lib.hid (show IntKind.i64.wrap ((k : Int) * (n / wn) + if n % wn < (k : Int) then n % wn else (k : Int)) = shAt n wn k from by
                rw [hE.out, show min (k : Int) (n % wn) = if n % wn < (k : Int) then n % wn else (k : Int) from by split <;> omega]
                exact IntWalk.i64_in _ (by split <;> omega))
              go_region_law (refine step_app (o := ⟨some 38, _, _, _, _, _⟩) _ rfl (.tmp 25) (.tmp 37) 61 61 rfl W.heap.size 3 i0 (.int .i64 0) 1 8 Try.underlying61 hi hz0 hz1 hz2 rfl (by decide) _ k ((shs n wn k).map (Value.int .i64)) rfl ?_ _ 1 ?_ rfl ?_ ?_ ?_ ?_ ?_; exact (HO.out.alloc _).drew; rotate_left; exact src_one _ Try.underlying61 _ 1 _ (cell_new1D _ (.int .i64 _) _) rfl; (unfold maxLen; omega); omega; (have := hbel.size; simp; omega); intro v' w1 hown' hgrow hat)
              rw [HV.out] at hown'
              have hb' : Below W.heap.size W w1 := ((hbel.alloc hbel.size _).drew).grown hgrow (by have := hbel.size; simp; omega) (fun q hq => (HO.out.lt q hq).1)
              clear hgrow hat e1 e2 e3
              have HO' := Lib.hid hown'
              clear hown'
              go_wp2
              go_roundw
              case rel => exact ⟨k + 1, by omega, by go_num, by rw [HL.out, List.map_append]; exact HO'.out, hb'⟩
              case measure => simp [intOf]; omega
            · obtain rfl : k = wn + 1 := by omega
              have HO := Lib.hid hown
              clear hown
              have hkn : ¬ ((wn + 1 : Nat) : Int) ≤ (wn : Int) := by omega
              go_wp2
              go_ret2
              refine ⟨hbel, _, _, rfl, by rw [if_neg (by omega), if_neg (by omega)], ?_⟩
              rw [if_neg (by omega)]
              exact ownR_ints HO.out (shs_wf n wn _ hn0 hn64 hw1 (by omega))

set_option maxHeartbeats 400000 in
theorem walkSplitShares (W : World) (x0 : Int) (a0 : Int) (h0 : (cInt .i64).rel W (lt W.heap.size) (.int .i64 x0 : Value).cells.toList a0) (x1 : Int) (a1 : Int) (h1 : (cInt .i64).rel W (lt W.heap.size) (.int .i64 x1 : Value).cells.toList a1) :
    Calls Try.prog 8 #[.int .i64 x0, .int .i64 x1] W fun e W' => e = .returned (.bool true) ∧ Below W.heap.size W W' := by
  have C1 := Lib.hid (share_any x0 x1)
  have C2 := Lib.hid (sharesOf_any x0 x1)
  have hlen : (if x0 < 0 ∨ 64 < x0 ∨ x1 < 1 ∨ 8 < x1 then [] else shs x0 x1 (x1.toNat + 1)).length ≤ 100 := by
    split
    · simp
    · rw [shs_len]; omega
  clear h0 h1
  unfold Shared at C1 C2
  generalize (if x0 < 0 ∨ 64 < x0 ∨ x1 < 1 ∨ 8 < x1 then [] else shs x0 x1 (x1.toNat + 1)) = xs at hlen C1 C2
  go_enter Try.func8, Try.ntmps8
  go_wp2_with fail
  refine (C1.out _).mono ?_
  rintro e w1 ⟨hb1, v1, f1, rfl, hf1, ho1⟩
  obtain ⟨A1, n1, c1, rfl, hn1, _, _, hs1⟩ := ho1.sl
  have F1 := Lib.hid hf1
  have N1 := Lib.hid hn1
  have S1 := Lib.hid hs1
  clear ho1 hf1 hn1 hs1
  go_wp2_with fail
  refine (C2.out _).mono ?_
  rintro e w2 ⟨hb2, v2, f2, rfl, hf2, ho2⟩
  obtain ⟨A2, n2, c2, rfl, hn2, _, _, hs2⟩ := ho2.sl
  obtain rfl : f2 = f1 := hf2.trans F1.out.symm
  obtain rfl : n2 = n1 := hn2.trans N1.out.symm
  have S2 := Lib.hid hs2
  clear ho2 hf2 hn2 hs2
  go_wp2_with fail
  refine (sameInts_any w2 (lt w2.heap.size) A1 A2 _ c1 c2 xs ((S1.out.below hb2).up hb2.size) S2.out (by have := N1.out; omega)).mono ?_
  rintro e w3 ⟨rfl, m, rfl⟩
  go_wp2
  go_ret
  exact ⟨rfl, hb1.trans ((hb2.mono hb1.size).trans ⟨rfl, rfl, rfl, Nat.le_refl _, fun _ _ => rfl⟩)⟩
end Go.Proofs.Ytbpibblidokhfaa
