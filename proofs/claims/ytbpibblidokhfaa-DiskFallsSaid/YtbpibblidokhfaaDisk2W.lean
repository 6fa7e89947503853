/- The walks of disk.New, of sectorFault and of sameDisk (at two disks that read alike). No condition. -/
import Derived.Test.YtbpibblidokhfaaDiskW
import Derived.Test.YtbpibblidokhfaaSelfW
namespace Go.Proofs.Ytbpibblidokhfaa
open Go.ChangeShapes Go.WideShapes Go.ChangeAt Go.RowKit Go.Deep

set_option maxRecDepth 100000 in
theorem selfSector : SelfC Try.prog 2 76 cSector true := self_arr Try.underlying76 (by kernel_rfl) (self_byte Try.underlying5 (by kernel_rfl))
set_option maxRecDepth 100000 in
theorem selfPut : SelfC Try.prog 3 91 cPut true :=
  self_struct Try.underlying91 (by kernel_rfl) (by kernel_rfl)
    (selfFs_cons rfl (self_int Try.underlying3 (by kernel_rfl)) (by decide) (selfFs_cons rfl selfSector (by decide) selfFs_nil))
theorem det_sector : Det cSector := det_arr _ det_byte
theorem det_put : Det cPut := det_struct (det_cons (det_int _) (det_cons det_sector det_end))
theorem sizeSector : (Try.prog.info? 76).map (·.size) = some 32 := by kernel_rfl

set_option maxRecDepth 100000 in
set_option maxHeartbeats 1600000 in
theorem sameDisk_any (W : World) (A A' B B' : Option Addr) (n c n' c' d d' : Nat) (l : List (List UInt8)) (ws : List PutT) (h : SlR cSector W (lt W.heap.size) A n l) (h' : SlR cPut W (lt W.heap.size) A' n' ws)
    (g : SlR cSector W (lt W.heap.size) B n l) (g' : SlR cPut W (lt W.heap.size) B' n' ws) (hn : n ≤ 1000000) (hn' : n' ≤ 1000000) :
    Calls Try.prog 31 #[.agg #[.slice A n c, .slice A' n' c'], .agg #[.slice B n d, .slice B' n' d']] W fun e w' => e = .returned (.bool true) ∧ Below W.heap.size W w' := by
  have H := Lib.hid h
  have H' := Lib.hid h'
  have G := Lib.hid g
  have G' := Lib.hid g'
  clear h h' g g'
  have hb0 : Below W.heap.size W ((W.alloc (.cells #[.slice A n c, .slice A' n' c'] 54)).alloc (.cells #[.slice B n d, .slice B' n' d'] 54)) := ((Below.refl _ _).alloc (Nat.le_refl _) _).alloc (by simp) _
  go_enter Try.func31, Try.ntmps31
  go_wp2
  generalize hw0 : ((W.alloc (.cells #[.slice A n c, .slice A' n' c'] 54)).alloc (.cells #[.slice B n d, .slice B' n' d'] 54)) = w0 at hb0 ⊢
  have hc1 : w0.cell? ⟨W.heap.size, 0, none⟩ = some (.slice A n c) := by rw [← hw0, cell_fst]; rfl
  have hc2 : w0.cell? ⟨W.heap.size, 1, none⟩ = some (.slice A' n' c') := by rw [← hw0, cell_fst]; rfl
  have hc3 : w0.cell? ⟨W.heap.size + 1, 0, none⟩ = some (.slice B n d) := by rw [← hw0, cell_snd]; rfl
  have hc4 : w0.cell? ⟨W.heap.size + 1, 1, none⟩ = some (.slice B' n' d') := by rw [← hw0, cell_snd]; rfl
  clear hw0
  go_loopw [26] (fun i wr => ∃ k : Nat, k ≤ n ∧ i = .int .i64 k ∧ ∃ m, wr = w0.drewN m) (fun i _ => n - (intOf i).toNat)
  case atStart => exact ⟨0, Nat.zero_le _, rfl, 0, rfl⟩
  case round =>
    obtain ⟨k, hk, rfl, m, rfl⟩ := hrel
    by_cases hlt : k < n
    · obtain ⟨b, o, rfl, hb, x, cs, hx, hat, hcl, hr⟩ := H.out.elemAt hlt
      obtain ⟨b', o', rfl, hb', x', cs', hx', hat', hcl', hr'⟩ := G.out.elemAt hlt
      obtain rfl : x' = x := by rw [hx] at hx'; exact (Option.some.inj hx').symm
      obtain rfl := det_sector _ _ _ _ _ _ _ hr hr'
      have R1 := Lib.hid (fun (w' : World) (hw' : ∃ j, w' = (w0.drewN m).drewN j) => (show w'.rangeAt b (o + k * 32) cs from by
        obtain ⟨j, rfl⟩ := hw'
        exact rangeAt_below hat (drewN_below (drewN_below hb0 m) j) hb))
      have R2 := Lib.hid (fun (w' : World) (hw' : ∃ j, w' = (w0.drewN m).drewN j) => (show w'.rangeAt b' (o' + k * 32) cs from by
        obtain ⟨j, rfl⟩ := hw'
        exact rangeAt_below hat' (drewN_below (drewN_below hb0 m) j) hb'))
      have NE := Lib.hid (selfSector.neq (by decide) hr)
      have HC := Lib.hid (show (Try.prog.info? 76).map (·.size) = some cs.length from by rw [hcl]; exact sizeSector)
      clear hx hx' hat hat' hcl hcl' hr hr'
      have hki : (k : Int) < (n : Int) := by omega
      go_wp2
      refine wp_region_quiet_lit (by kernel_rfl) (by kernel_rfl) ?_
      repeat (first
        | ((with_reducible refine wpQuiet_load (o := ⟨some 33, _, _, _, _, _⟩) rfl 76 (.tmp 32) rfl b (o + k * 32) ?_ cs _ R1.out Try.underlying76 rfl HC.out ?_); rfl)
        | ((with_reducible refine wpQuiet_load (o := ⟨some 38, _, _, _, _, _⟩) rfl 76 (.tmp 37) rfl b' (o' + k * 32) ?_ cs _ R2.out Try.underlying76 rfl HC.out ?_); rfl)
        | ((with_reducible refine wpQuiet_bin (o := ⟨some 39, _, _, _, _, _⟩) rfl .neq 76 _ (.tmp 33) (.tmp 38) rfl (.agg cs.toArray) (.agg cs.toArray) (.bool false) ?_ ?_ ?_ NE.out ?_); rfl; rfl; (intro w; go_simp))
        | quiet_step (fail))
      refine wpQuiet_nil ?_
      intro _ hw'
      obtain ⟨nq, hw''⟩ := hw'
      subst hw''
      go_wp2
      go_roundw
      case rel => exact ⟨k + 1, by omega, by go_num, m + nq, rfl⟩
      case measure => simp [intOf]; omega
    · obtain rfl : k = n := by omega
      go_wp2
      go_loopw [44] (fun i wr => ∃ k : Nat, k ≤ n' ∧ i = .int .i64 k ∧ ∃ m, wr = w0.drewN m) (fun i _ => n' - (intOf i).toNat)
      case atStart => exact ⟨0, Nat.zero_le _, rfl, m, rfl⟩
      case round =>
        clear hk hlt
        obtain ⟨j, hj, rfl, m', rfl⟩ := hrel
        by_cases hlt : j < n'
        · obtain ⟨b, o, rfl, hb, x, cs, hx, hat, hcl, hr⟩ := H'.out.elemAt hlt
          obtain ⟨b', o', rfl, hb', x', cs', hx', hat', hcl', hr'⟩ := G'.out.elemAt hlt
          obtain rfl : x' = x := by rw [hx] at hx'; exact (Option.some.inj hx').symm
          obtain rfl := det_put _ _ _ _ _ _ _ hr hr'
          have R1 := Lib.hid (fun (w' : World) (hw' : ∃ q, w' = (w0.drewN m').drewN q) => (show w'.rangeAt b (o + j * 33) cs from by
            obtain ⟨q, rfl⟩ := hw'
            exact rangeAt_below hat (drewN_below (drewN_below hb0 m') q) hb))
          have R2 := Lib.hid (fun (w' : World) (hw' : ∃ q, w' = (w0.drewN m').drewN q) => (show w'.rangeAt b' (o' + j * 33) cs from by
            obtain ⟨q, rfl⟩ := hw'
            exact rangeAt_below hat' (drewN_below (drewN_below hb0 m') q) hb'))
          have NE := Lib.hid (selfPut.neq (by decide) hr)
          have HC := Lib.hid (show (Try.prog.info? 91).map (·.size) = some cs.length from by rw [hcl]; exact sizePut)
          clear hx hx' hat hat' hcl hcl' hr hr'
          have hki : (j : Int) < (n' : Int) := by omega
          go_wp2
          refine wp_region_quiet_lit (by kernel_rfl) (by kernel_rfl) ?_
          repeat (first
            | ((with_reducible refine wpQuiet_load (o := ⟨some 51, _, _, _, _, _⟩) rfl 91 (.tmp 50) rfl b (o + j * 33) ?_ cs _ R1.out Try.underlying91 rfl HC.out ?_); rfl)
            | ((with_reducible refine wpQuiet_load (o := ⟨some 56, _, _, _, _, _⟩) rfl 91 (.tmp 55) rfl b' (o' + j * 33) ?_ cs _ R2.out Try.underlying91 rfl HC.out ?_); rfl)
            | ((with_reducible refine wpQuiet_bin (o := ⟨some 57, _, _, _, _, _⟩) rfl .neq 91 _ (.tmp 51) (.tmp 56) rfl (.agg cs.toArray) (.agg cs.toArray) (.bool false) ?_ ?_ ?_ NE.out ?_); rfl; rfl; (intro w; go_simp))
            | quiet_step (fail))
          refine wpQuiet_nil ?_
          intro _ hw'
          obtain ⟨nq, hw''⟩ := hw'
          subst hw''
          go_wp2
          go_roundw
          case rel => exact ⟨j + 1, by omega, by go_num, m' + nq, rfl⟩
          case measure => simp [intOf]; omega
        · obtain rfl : j = n' := by omega
          go_wp2
          go_ret
          exact ⟨rfl, drewN_below hb0 m'⟩

/-! ### New -/
theorem infoSector : (Try.prog.info? 76).map (fun i => (i.zero, i.size, i.bytes)) = some (some (.agg (Array.replicate 32 (.int .u8 0))), 32, 32) := by kernel_rfl
def zeroL : List UInt8 := List.replicate 32 0
theorem made_at (v : Value) (n i : Nat) (hi : i < n) : (madeCells (Array.replicate 32 v) n)[i]? = some v := by
  unfold madeCells
  rw [Array.getElem?_map, Array.getElem?_range]
  simp [hi, Nat.mod_lt]
/-- make([][32]byte, n): n sectors of noughts -/
theorem made_sectors (w : World) (n : Nat) :
    SlR cSector (w.alloc (.cells (madeCells (Array.replicate 32 (Value.int .u8 0)) (n * 32)) 76)) (lt (w.heap.size + 1)) (some ⟨w.heap.size, 0, none⟩) n (List.replicate n zeroL) := by
  refine ⟨by simp, fun h0 => ⟨_, _, rfl, by unfold lt; omega, fun i x hi => ⟨List.replicate 32 (.int .u8 0), fun j u hu => ?_, ?_⟩⟩⟩
  · rw [cell_of_row _ _ _ _ _ _ (heap_alloc_new w _)]
    have hin : i < n := by have := (List.getElem?_eq_some_iff.1 hi).1; simpa using this
    have hj : j < 32 := by have := (List.getElem?_eq_some_iff.1 hu).1; simpa using this
    have hu' : u = .int .u8 0 := List.eq_of_mem_replicate (List.mem_of_getElem? hu)
    have hs : cSector.size = 32 := rfl
    rw [hs, hu', made_at _ _ _ (by omega)]
  · have hx : x = zeroL := List.eq_of_mem_replicate (List.mem_of_getElem? hi)
    subst hx
    refine ⟨by simp [cByte], by simp [zeroL], fun j y hy => ?_⟩
    have hy' : y = 0 := List.eq_of_mem_replicate (List.mem_of_getElem? hy)
    have hj : j < 32 := by have := (List.getElem?_eq_some_iff.1 hy).1; simpa [zeroL] using this
    subst hy'
    simp only [cByte, Nat.mul_one]
    rw [List.drop_replicate, List.take_replicate, Nat.min_eq_left (by omega)]
    rfl

/-- a new disk, or none -/
def Newed (n : Int) (W : World) (e : Ending) (w' : World) : Prop :=
  Below W.heap.size W w' ∧ ∃ A, e = .returned (.tuple #[.agg #[.slice A (if n < 1 ∨ 400 < n then 0 else n.toNat) (if n < 1 ∨ 400 < n then 0 else n.toNat), .slice none 0 0], .int .i64 (if n < 1 ∨ 400 < n then 1 else 0)]) ∧
    SlR cSector w' (lt w'.heap.size) A (if n < 1 ∨ 400 < n then 0 else n.toNat) (List.replicate (if n < 1 ∨ 400 < n then 0 else n.toNat) zeroL)
theorem Newed.bad {n : Int} {W w' : World} {e : Ending} (h : n < 1 ∨ 400 < n) (hb : Below W.heap.size W w') (he : e = .returned (.tuple #[.agg #[.slice none 0 0, .slice none 0 0], .int .i64 1])) : Newed n W e w' := by
  unfold Newed
  rw [if_pos h, if_pos h]
  exact ⟨hb, none, he, SlR.nil _ _ _ _⟩
theorem Newed.good {n : Nat} {W w' : World} {e : Ending} {A : Option Addr} (h : ¬ ((n : Int) < 1 ∨ 400 < (n : Int))) (hb : Below W.heap.size W w') (he : e = .returned (.tuple #[.agg #[.slice A n n, .slice none 0 0], .int .i64 0])) (hs : SlR cSector w' (lt w'.heap.size) A n (List.replicate n zeroL)) : Newed n W e w' := by
  unfold Newed
  rw [if_neg h, if_neg h, Int.toNat_natCast]
  exact ⟨hb, A, he, hs⟩

set_option maxRecDepth 100000 in
set_option maxHeartbeats 800000 in
theorem New_any (W : World) (n : Int) : Calls Try.prog 29 #[.int .i64 n] W (Newed n W) := by
  by_cases h1 : n < 1
  · go_enter Try.func29, Try.ntmps29
    go_wp2
    exact bodyPost_ret (v := .tuple #[.agg #[.slice none 0 0, .slice none 0 0], .int .i64 1]) (by simp [results, Try.results29, go_sem]) rfl (Newed.bad (.inl h1) ((Below.refl _ _).alloc (Nat.le_refl _) _) rfl)
  · by_cases h2 : 400 < n
    · go_enter Try.func29, Try.ntmps29
      go_wp2
      exact bodyPost_ret (v := .tuple #[.agg #[.slice none 0 0, .slice none 0 0], .int .i64 1]) (by simp [results, Try.results29, go_sem]) rfl (Newed.bad (.inr h2) ((Below.refl _ _).alloc (Nat.le_refl _) _) rfl)
    · obtain ⟨m, rfl⟩ := Int.eq_ofNat_of_zero_le (show 0 ≤ n by omega)
      obtain ⟨i0, hi, hz0, hz1, hz2⟩ := info_parts infoSector
      have hmk : ∀ w, (Instr.makeSlice 51 (.int .i64 (m : Int)) (.int .i64 (m : Int))).run Try.prog w = .ok (.slice (some ⟨w.heap.size, 0, none⟩) m m) (w.alloc (.cells (madeCells (Array.replicate 32 (Value.int .u8 0)) (m * 32)) 76)) := fun w => by
        have hr := run_make (P := Try.prog) w 51 76 i0 _ Try.underlying51 hi hz0 .i64 .i64 (m : Int) (m : Int) (by omega) (by omega) (by rw [hz2]; omega) (by omega)
        simp only [Int.toNat_natCast, hz1, Value.cells] at hr
        exact hr
      have HH := Lib.hid (show ¬ ((m : Int) < 1 ∨ 400 < (m : Int)) from by omega)
      clear hi hz0 hz1 hz2
      go_enter Try.func29, Try.ntmps29
      go_wp2
      refine bodyPost_ret (v := .tuple #[.agg #[.slice (some ⟨W.heap.size + 1, 0, none⟩) m m, .slice none 0 0], .int .i64 0]) (by simp [results, Try.results29, go_sem]) rfl (Newed.good HH.out (((Below.refl _ _).alloc (Nat.le_refl _) _).alloc (by simp) _) rfl ?_)
      generalize hw1 : W.alloc (.cells #[.slice (some ⟨W.heap.size + 1, 0, none⟩) m m, .slice none 0 0] 54) = w1
      have hsz : w1.heap.size = W.heap.size + 1 := by rw [← hw1]; simp
      have := made_sectors w1 m
      rw [hsz] at this
      exact SlR.up this (by simp [hsz])
end Go.Proofs.Ytbpibblidokhfaa
