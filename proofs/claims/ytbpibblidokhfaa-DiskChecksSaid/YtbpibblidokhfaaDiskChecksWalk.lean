/- The walk of DiskChecks: it returns true, and nothing that was there is turned. -/
import Derived.Test.YtbpibblidokhfaaDisk2W
import Derived.Deep.RegionHeld3
namespace Go.Proofs.Ytbpibblidokhfaa
open Go.ChangeShapes Go.WideShapes Go.ChangeAt Go.RowKit Go.Deep

theorem disk_arg {w : World} {S : Nat → Prop} {cs : List Value} {x : (List (List UInt8)) × (List PutT) × Unit} (h : (cStruct (cCons (cSlice cSector) (cCons (cSlice cPut) cEnd))).rel w S cs x) :
    ∃ A n c A' n' c', cs = [.slice A n c, .slice A' n' c'] ∧ n ≤ c ∧ c ≤ maxLen ∧ n' ≤ c' ∧ c' ≤ maxLen ∧ SlR cSector w S A n x.1 ∧ SlR cPut w S A' n' x.2.1 := by
  obtain ⟨l, r, rfl, ⟨A, n, c, rfl, h1, h2, h3⟩, l2, r2, rfl, ⟨A', n', c', rfl, h4, h5, h6⟩, h7⟩ := h
  have h7 : r2 = [] := h7
  subst h7
  exact ⟨A, n, c, A', n', c', rfl, h1, h2, h4, h5, h3, h6⟩
theorem make_sectors (m : Nat) (hm : m ≤ 400) : ∀ w, (Instr.makeSlice 51 (.int .i64 (m : Int)) (.int .i64 (m : Int))).run Try.prog w = .ok (.slice (some ⟨w.heap.size, 0, none⟩) m m) (w.alloc (.cells (madeCells (Array.replicate 32 (Value.int .u8 0)) (m * 32)) 76)) := fun w => by
  obtain ⟨i0, hi, hz0, hz1, hz2⟩ := info_parts infoSector
  have hr := run_make (P := Try.prog) w 51 76 i0 _ Try.underlying51 hi hz0 .i64 .i64 (m : Int) (m : Int) (by omega) (by omega) (by rw [hz2]; omega) (by omega)
  simp only [Int.toNat_natCast, hz1, Value.cells] at hr
  exact hr
theorem cell_keep {w w' : World} {b i : Nat} {v : Value} (h : w.cell? ⟨b, i, none⟩ = some v) (hb : Below w.heap.size w w') : w'.cell? ⟨b, i, none⟩ = some v :=
  (hb.cell (p := ⟨b, i, none⟩) (block_lt_of_cell h)).trans h

set_option maxRecDepth 100000 in
set_option maxHeartbeats 1600000 in
theorem checks_good (W : World) (A A' : Option Addr) (n c n' c' : Nat) (l : List (List UInt8)) (ws : List PutT) (x : Int) (hx1 : 1 ≤ x) (hx2 : x ≤ 400) (h : SlR cSector W (lt W.heap.size) A n l) (h' : SlR cPut W (lt W.heap.size) A' n' ws) :
    Calls Try.prog 9 #[.agg #[.slice A n c, .slice A' n' c'], .int .i64 x] W fun e W' => e = .returned (.bool true) ∧ Below W.heap.size W W' := by
  have C1 := Lib.hid (fun w (hb : Below W.heap.size W w) => Check_any w A A' n c n' c' l ws ((h.below hb).up hb.size) ((h'.below hb).up hb.size))
  have C3 := Lib.hid (fun w (hb : Below W.heap.size W w) => DiskFault_any w A A' n c n' c' l ws ((h.below hb).up hb.size) ((h'.below hb).up hb.size))
  have C2 := Lib.hid (fun w => New_any w x)
  have hb0 : Below W.heap.size W (W.alloc (.cells #[.slice A n c, .slice A' n' c'] 54)) := (Below.refl _ _).alloc (Nat.le_refl _) _
  clear h h'
  generalize diskF l ws = f at C1 C3
  obtain ⟨m, rfl⟩ := Int.eq_ofNat_of_zero_le (show 0 ≤ x by omega)
  have hn : ¬ ((m : Int) < 1 ∨ 400 < (m : Int)) := by omega
  unfold Newed at C2
  simp only [if_neg hn, Int.toNat_natCast] at C2
  clear hn
  go_enter Try.func9, Try.ntmps9
  go_wp2_with fail
  have k0 : (W.alloc (.cells #[.slice A n c, .slice A' n' c'] 54)).cell? ⟨W.heap.size, 0, none⟩ = some (.slice A n c) := by rw [cell_of_row _ _ _ _ _ _ (heap_alloc_new W _)]; rfl
  have k1 : (W.alloc (.cells #[.slice A n c, .slice A' n' c'] 54)).cell? ⟨W.heap.size, 1, none⟩ = some (.slice A' n' c') := by rw [cell_of_row _ _ _ _ _ _ (heap_alloc_new W _)]; rfl
  refine (C1.out _ hb0).mono ?_
  rintro e w1 ⟨rfl, hb1⟩
  have k0 := cell_keep k0 hb1
  have k1 := cell_keep k1 hb1
  have hbW1 := hb0.trans (hb1.mono hb0.size)
  clear hb1 hb0
  go_wp2_with fail
  refine (C2.out _).mono ?_
  rintro e w2 ⟨hb2, B, rfl, hs2⟩
  have HS2 := Lib.hid hs2
  clear hs2
  have k0 := cell_keep k0 hb2
  have k1 := cell_keep k1 hb2
  have hbW2 := hbW1.trans (hb2.mono hbW1.size)
  clear hbW1 hb2
  have ha := (Below.refl w2.heap.size w2).alloc (Nat.le_refl _) (.cells #[.slice B m m, .slice none 0 0] 54)
  have k0 := cell_keep k0 ha
  have k1 := cell_keep k1 ha
  have k2 : (w2.alloc (.cells #[.slice B m m, .slice none 0 0] 54)).cell? ⟨w2.heap.size, 0, none⟩ = some (.slice B m m) := by rw [cell_of_row _ _ _ _ _ _ (heap_alloc_new w2 _)]; rfl
  have k3 : (w2.alloc (.cells #[.slice B m m, .slice none 0 0] 54)).cell? ⟨w2.heap.size, 1, none⟩ = some (.slice none 0 0) := by rw [cell_of_row _ _ _ _ _ _ (heap_alloc_new w2 _)]; rfl
  go_wp2_with fail
  refine (C3.out _ (hbW2.trans (ha.mono hbW2.size))).mono ?_
  rintro e w3 ⟨rfl, hb3⟩
  have k2 := cell_keep k2 hb3
  have k3 := cell_keep k3 hb3
  have hbW3 := (hbW2.trans (ha.mono hbW2.size)).trans (hb3.mono (hbW2.trans (ha.mono hbW2.size)).size)
  have HS3 := Lib.hid (((HS2.out.below ha).up ha.size).below hb3 |>.up hb3.size)
  clear k0 k1 ha hb3 hbW2 HS2
  have hmk := make_sectors m (by omega)
  go_wp2
  go_region_held3 (fun w' => w'.cell? ⟨w2.heap.size, 0, none⟩ = some (.slice B m m) ∧ w'.cell? ⟨w2.heap.size, 1, none⟩ = some (.slice none 0 0)) (go_keep) (first | (go_at_call 31; (with_reducible refine (sameDisk_any _ _ _ _ _ _ _ _ _ _ _ (List.replicate m zeroL) [] ?_ (SlR.nil _ _ _ _) ?_ (SlR.nil _ _ _ _) ?_ ?_).mono ?_); (exact (HS3.out.below ((Below.refl _ _).alloc (Nat.le_refl _) _)).up (by simp)); (exact SlR.up (made_sectors w3 _) (by simp)); omega; omega; rintro e w5 ⟨rfl, hb5⟩; have z0 := cell_keep (cell_keep k2 ((Below.refl _ _).alloc (Nat.le_refl _) _).drew) hb5; have z1 := cell_keep (cell_keep k3 ((Below.refl _ _).alloc (Nat.le_refl _) _).drew) hb5))
  all_goals
    go_wp2
    go_ret
    refine ⟨rfl, hbW3.trans (Below.mono ?_ hbW3.size)⟩
    exact Below.trans ((Below.refl _ _).alloc (Nat.le_refl _) _).drew (Below.mono (by assumption) (by simp))

set_option maxRecDepth 100000 in
set_option maxHeartbeats 1600000 in
theorem checks_low (W : World) (A A' : Option Addr) (n c n' c' : Nat) (l : List (List UInt8)) (ws : List PutT) (x : Int) (hx1 : x < 1) (h : SlR cSector W (lt W.heap.size) A n l) (h' : SlR cPut W (lt W.heap.size) A' n' ws) :
    Calls Try.prog 9 #[.agg #[.slice A n c, .slice A' n' c'], .int .i64 x] W fun e W' => e = .returned (.bool true) ∧ Below W.heap.size W W' := by
  have C1 := Lib.hid (fun w (hb : Below W.heap.size W w) => Check_any w A A' n c n' c' l ws ((h.below hb).up hb.size) ((h'.below hb).up hb.size))
  have C3 := Lib.hid (fun w (hb : Below W.heap.size W w) => DiskFault_any w A A' n c n' c' l ws ((h.below hb).up hb.size) ((h'.below hb).up hb.size))
  have C2 := Lib.hid (fun w => New_any w x)
  have hb0 : Below W.heap.size W (W.alloc (.cells #[.slice A n c, .slice A' n' c'] 54)) := (Below.refl _ _).alloc (Nat.le_refl _) _
  clear h h'
  generalize diskF l ws = f at C1 C3
  have hn : x < 1 ∨ 400 < x := .inl hx1
  unfold Newed at C2
  simp only [if_pos hn] at C2
  clear hn
  go_enter Try.func9, Try.ntmps9
  go_wp2_with fail
  have k0 : (W.alloc (.cells #[.slice A n c, .slice A' n' c'] 54)).cell? ⟨W.heap.size, 0, none⟩ = some (.slice A n c) := by rw [cell_of_row _ _ _ _ _ _ (heap_alloc_new W _)]; rfl
  have k1 : (W.alloc (.cells #[.slice A n c, .slice A' n' c'] 54)).cell? ⟨W.heap.size, 1, none⟩ = some (.slice A' n' c') := by rw [cell_of_row _ _ _ _ _ _ (heap_alloc_new W _)]; rfl
  refine (C1.out _ hb0).mono ?_
  rintro e w1 ⟨rfl, hb1⟩
  have k0 := cell_keep k0 hb1
  have k1 := cell_keep k1 hb1
  have hbW1 := hb0.trans (hb1.mono hb0.size)
  clear hb1 hb0
  go_wp2_with fail
  refine (C2.out _).mono ?_
  rintro e w2 ⟨hb2, B, rfl, hs2⟩
  have HS2 := Lib.hid hs2
  clear hs2
  have k0 := cell_keep k0 hb2
  have k1 := cell_keep k1 hb2
  have hbW2 := hbW1.trans (hb2.mono hbW1.size)
  clear hbW1 hb2
  have ha := (Below.refl w2.heap.size w2).alloc (Nat.le_refl _) (.cells #[.slice B 0 0, .slice none 0 0] 54)
  have k0 := cell_keep k0 ha
  have k1 := cell_keep k1 ha
  have k2 : (w2.alloc (.cells #[.slice B 0 0, .slice none 0 0] 54)).cell? ⟨w2.heap.size, 0, none⟩ = some (.slice B 0 0) := by rw [cell_of_row _ _ _ _ _ _ (heap_alloc_new w2 _)]; rfl
  have k3 : (w2.alloc (.cells #[.slice B 0 0, .slice none 0 0] 54)).cell? ⟨w2.heap.size, 1, none⟩ = some (.slice none 0 0) := by rw [cell_of_row _ _ _ _ _ _ (heap_alloc_new w2 _)]; rfl
  go_wp2_with fail
  refine (C3.out _ (hbW2.trans (ha.mono hbW2.size))).mono ?_
  rintro e w3 ⟨rfl, hb3⟩
  have k2 := cell_keep k2 hb3
  have k3 := cell_keep k3 hb3
  have hbW3 := (hbW2.trans (ha.mono hbW2.size)).trans (hb3.mono (hbW2.trans (ha.mono hbW2.size)).size)
  have HS3 := Lib.hid (((HS2.out.below ha).up ha.size).below hb3 |>.up hb3.size)
  clear k0 k1 ha hb3 hbW2 HS2
  have hmk : ∀ w, (Instr.makeSlice 51 (.int .i64 0) (.int .i64 0)).run Try.prog w = .ok (.slice (some ⟨w.heap.size, 0, none⟩) 0 0) (w.alloc (.cells (madeCells (Array.replicate 32 (Value.int .u8 0)) (0 * 32)) 76)) := make_sectors 0 (by omega)
  go_wp2
  go_region_held3 (fun w' => w'.cell? ⟨w2.heap.size, 0, none⟩ = some (.slice B 0 0) ∧ w'.cell? ⟨w2.heap.size, 1, none⟩ = some (.slice none 0 0)) (go_keep) (first | (go_at_call 31; (with_reducible refine (sameDisk_any _ _ _ _ _ _ _ _ _ _ _ [] [] (SlR.nil _ _ _ _) (SlR.nil _ _ _ _) (SlR.nil _ _ _ _) (SlR.nil _ _ _ _) ?_ ?_).mono ?_); omega; omega; rintro e w5 ⟨rfl, hb5⟩; have z0 := cell_keep (cell_keep k2 ((Below.refl _ _).alloc (Nat.le_refl _) _).drew) hb5; have z1 := cell_keep (cell_keep k3 ((Below.refl _ _).alloc (Nat.le_refl _) _).drew) hb5))
  all_goals
    go_wp2
    go_ret
    refine ⟨rfl, hbW3.trans (Below.mono ?_ hbW3.size)⟩
    exact Below.trans ((Below.refl _ _).alloc (Nat.le_refl _) _).drew (Below.mono (by assumption) (by simp))

set_option maxRecDepth 100000 in
set_option maxHeartbeats 1600000 in
theorem checks_high (W : World) (A A' : Option Addr) (n c n' c' : Nat) (l : List (List UInt8)) (ws : List PutT) (x : Int) (hx1 : 400 < x) (h : SlR cSector W (lt W.heap.size) A n l) (h' : SlR cPut W (lt W.heap.size) A' n' ws) :
    Calls Try.prog 9 #[.agg #[.slice A n c, .slice A' n' c'], .int .i64 x] W fun e W' => e = .returned (.bool true) ∧ Below W.heap.size W W' := by
  have C1 := Lib.hid (fun w (hb : Below W.heap.size W w) => Check_any w A A' n c n' c' l ws ((h.below hb).up hb.size) ((h'.below hb).up hb.size))
  have C3 := Lib.hid (fun w (hb : Below W.heap.size W w) => DiskFault_any w A A' n c n' c' l ws ((h.below hb).up hb.size) ((h'.below hb).up hb.size))
  have C2 := Lib.hid (fun w => New_any w x)
  have hb0 : Below W.heap.size W (W.alloc (.cells #[.slice A n c, .slice A' n' c'] 54)) := (Below.refl _ _).alloc (Nat.le_refl _) _
  clear h h'
  generalize diskF l ws = f at C1 C3
  have hn : x < 1 ∨ 400 < x := .inr hx1
  unfold Newed at C2
  simp only [if_pos hn] at C2
  clear hn
  go_enter Try.func9, Try.ntmps9
  go_wp2_with fail
  have k0 : (W.alloc (.cells #[.slice A n c, .slice A' n' c'] 54)).cell? ⟨W.heap.size, 0, none⟩ = some (.slice A n c) := by rw [cell_of_row _ _ _ _ _ _ (heap_alloc_new W _)]; rfl
  have k1 : (W.alloc (.cells #[.slice A n c, .slice A' n' c'] 54)).cell? ⟨W.heap.size, 1, none⟩ = some (.slice A' n' c') := by rw [cell_of_row _ _ _ _ _ _ (heap_alloc_new W _)]; rfl
  refine (C1.out _ hb0).mono ?_
  rintro e w1 ⟨rfl, hb1⟩
  have k0 := cell_keep k0 hb1
  have k1 := cell_keep k1 hb1
  have hbW1 := hb0.trans (hb1.mono hb0.size)
  clear hb1 hb0
  go_wp2_with fail
  refine (C2.out _).mono ?_
  rintro e w2 ⟨hb2, B, rfl, hs2⟩
  have HS2 := Lib.hid hs2
  clear hs2
  have k0 := cell_keep k0 hb2
  have k1 := cell_keep k1 hb2
  have hbW2 := hbW1.trans (hb2.mono hbW1.size)
  clear hbW1 hb2
  have ha := (Below.refl w2.heap.size w2).alloc (Nat.le_refl _) (.cells #[.slice B 0 0, .slice none 0 0] 54)
  have k0 := cell_keep k0 ha
  have k1 := cell_keep k1 ha
  have k2 : (w2.alloc (.cells #[.slice B 0 0, .slice none 0 0] 54)).cell? ⟨w2.heap.size, 0, none⟩ = some (.slice B 0 0) := by rw [cell_of_row _ _ _ _ _ _ (heap_alloc_new w2 _)]; rfl
  have k3 : (w2.alloc (.cells #[.slice B 0 0, .slice none 0 0] 54)).cell? ⟨w2.heap.size, 1, none⟩ = some (.slice none 0 0) := by rw [cell_of_row _ _ _ _ _ _ (heap_alloc_new w2 _)]; rfl
  go_wp2_with fail
  refine (C3.out _ (hbW2.trans (ha.mono hbW2.size))).mono ?_
  rintro e w3 ⟨rfl, hb3⟩
  have k2 := cell_keep k2 hb3
  have k3 := cell_keep k3 hb3
  have hbW3 := (hbW2.trans (ha.mono hbW2.size)).trans (hb3.mono (hbW2.trans (ha.mono hbW2.size)).size)
  have HS3 := Lib.hid (((HS2.out.below ha).up ha.size).below hb3 |>.up hb3.size)
  clear k0 k1 ha hb3 hbW2 HS2
  have hmk : ∀ w, (Instr.makeSlice 51 (.int .i64 0) (.int .i64 0)).run Try.prog w = .ok (.slice (some ⟨w.heap.size, 0, none⟩) 0 0) (w.alloc (.cells (madeCells (Array.replicate 32 (Value.int .u8 0)) (0 * 32)) 76)) := make_sectors 0 (by omega)
  go_wp2
  go_region_held3 (fun w' => w'.cell? ⟨w2.heap.size, 0, none⟩ = some (.slice B 0 0) ∧ w'.cell? ⟨w2.heap.size, 1, none⟩ = some (.slice none 0 0)) (go_keep) (first | (go_at_call 31; (with_reducible refine (sameDisk_any _ _ _ _ _ _ _ _ _ _ _ [] [] (SlR.nil _ _ _ _) (SlR.nil _ _ _ _) (SlR.nil _ _ _ _) (SlR.nil _ _ _ _) ?_ ?_).mono ?_); omega; omega; rintro e w5 ⟨rfl, hb5⟩; have z0 := cell_keep (cell_keep k2 ((Below.refl _ _).alloc (Nat.le_refl _) _).drew) hb5; have z1 := cell_keep (cell_keep k3 ((Below.refl _ _).alloc (Nat.le_refl _) _).drew) hb5))
  all_goals
    go_wp2
    go_ret
    refine ⟨rfl, hbW3.trans (Below.mono ?_ hbW3.size)⟩
    exact Below.trans ((Below.refl _ _).alloc (Nat.le_refl _) _).drew (Below.mono (by assumption) (by simp))

theorem walkDiskChecks (W : World) (x0 : Array Value) (a0 : ((List (List UInt8)) × ((List (Int × ((List UInt8) × Unit))) × Unit))) (h0 : (cStruct (cCons (cSlice (cArr 32 cByte)) (cCons (cSlice (cStruct (cCons (cInt .i64) (cCons (cArr 32 cByte) cEnd)))) cEnd))).rel W (lt W.heap.size) (.agg x0 : Value).cells.toList a0) (x1 : Int) (a1 : Int) (h1 : (cInt .i64).rel W (lt W.heap.size) (.int .i64 x1 : Value).cells.toList a1) :
    Calls Try.prog 9 #[.agg x0, .int .i64 x1] W fun e W' => e = .returned (.bool true) ∧ Below W.heap.size W W' := by
  obtain ⟨A, n, c, A', n', c', he, _, _, _, _, hl, hw⟩ := disk_arg h0
  obtain ⟨l⟩ := x0
  simp only [Value.cells] at he
  subst he
  clear h1
  by_cases hx1 : x1 < 1
  · exact checks_low W A A' n c n' c' _ _ x1 hx1 hl hw
  · by_cases hx2 : 400 < x1
    · exact checks_high W A A' n c n' c' _ _ x1 hx2 hl hw
    · exact checks_good W A A' n c n' c' _ _ x1 (by omega) (by omega) hl hw
end Go.Proofs.Ytbpibblidokhfaa
