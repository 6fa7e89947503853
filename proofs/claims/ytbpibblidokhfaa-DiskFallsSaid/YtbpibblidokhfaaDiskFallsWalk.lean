/- The walk of DiskFalls: it returns true, and nothing that was there is turned. -/
import Derived.Test.YtbpibblidokhfaaFall2W
import Derived.Test.YtbpibblidokhfaaFallenW
namespace Go.Proofs.Ytbpibblidokhfaa
open Go.ChangeShapes Go.WideShapes Go.ChangeAt Go.RowKit Go.Deep

theorem disk_arg {w : World} {S : Nat → Prop} {cs : List Value} {x : (List (List UInt8)) × (List PutT) × Unit} (h : (cStruct (cCons (cSlice cSector) (cCons (cSlice cPut) cEnd))).rel w S cs x) :
    ∃ A n c A' n' c', cs = [.slice A n c, .slice A' n' c'] ∧ n ≤ c ∧ c ≤ maxLen ∧ n' ≤ c' ∧ c' ≤ maxLen ∧ SlR cSector w S A n x.1 ∧ SlR cPut w S A' n' x.2.1 := by
  obtain ⟨l, r, rfl, ⟨A, n, c, rfl, h1, h2, h3⟩, l2, r2, rfl, ⟨A', n', c', rfl, h4, h5, h6⟩, h7⟩ := h
  have h7 : r2 = [] := h7
  subst h7
  exact ⟨A, n, c, A', n', c', rfl, h1, h2, h4, h5, h3, h6⟩
theorem nw_lt {α : Type} {c : Cd α} {W w : World} {A : Option Addr} {n : Nat} {xs : List α} (h : SlR c w (nw W w) A n xs) : SlR c w (lt w.heap.size) A n xs := h.more fun b hb => hb.2
theorem fell_len (f : Nat → Bool) (l : List (List UInt8)) (ws : List PutT) : (if diskF l ws = 0 then setAt f ws l else []).length ≤ 400 := by
  split
  · rw [setAt_length]
    have := diskF_sizes (by assumption)
    omega
  · simp

set_option maxRecDepth 100000 in
set_option maxHeartbeats 3200000 in
theorem falls_good (W : World) (A A' : Option Addr) (n c n' c' : Nat) (l : List (List UInt8)) (ws : List PutT) (x : Int) (hwx : (Lit.int .i64 x).wf = true) (hl : SlR cSector W (lt W.heap.size) A n l) (hw : SlR cPut W (lt W.heap.size) A' n' ws) :
    Calls Try.prog 14 #[.agg #[.slice A n c, .slice A' n' c'], .int .i64 x] W fun e W' => e = .returned (.bool true) ∧ Below W.heap.size W W' := by
  have hr1 := fell_len (fun _ => true) l ws
  have hr2 := fell_len (bitAt x) l ws
  have C1 := Lib.hid (fun w (hb : Below W.heap.size W w) => Sync_any w A A' n c n' c' l ws ((hl.below hb).up hb.size) ((hw.below hb).up hb.size))
  have C2 := Lib.hid (fun w (hb : Below W.heap.size W w) => Crash_any w x hwx A A' n c n' c' l ws ((hl.below hb).up hb.size) ((hw.below hb).up hb.size))
  have C3 := Lib.hid (fun w (hb : Below W.heap.size W w) => Fallen_any w 0 true A A' n c n' c' l ws ((hl.below hb).up hb.size) ((hw.below hb).up hb.size))
  have C4 := Lib.hid (fun w (hb : Below W.heap.size W w) => Fallen_any w x false A A' n c n' c' l ws ((hl.below hb).up hb.size) ((hw.below hb).up hb.size))
  simp only [Bool.true_or, Bool.false_or] at C3 C4
  unfold Fell at C1 C2 C3 C4
  clear hl hw hwx
  generalize diskF l ws = f at *
  generalize (if f = 0 then setAt (fun _ => true) ws l else []) = r1 at *
  generalize (if f = 0 then setAt (fun j => bitAt x j) ws l else []) = r2 at *
  have hb0 : Below W.heap.size W (W.alloc (.cells #[.slice A n c, .slice A' n' c'] 54)) := (Below.refl _ _).alloc (Nat.le_refl _) _
  have k0 : (W.alloc (.cells #[.slice A n c, .slice A' n' c'] 54)).cell? ⟨W.heap.size, 0, none⟩ = some (.slice A n c) := by rw [cell_of_row _ _ _ _ _ _ (heap_alloc_new W _)]; rfl
  have k1 : (W.alloc (.cells #[.slice A n c, .slice A' n' c'] 54)).cell? ⟨W.heap.size, 1, none⟩ = some (.slice A' n' c') := by rw [cell_of_row _ _ _ _ _ _ (heap_alloc_new W _)]; rfl
  go_enter Try.func14, Try.ntmps14
  go_wp2_with fail
  refine (C1.out _ hb0).mono ?_
  rintro e w1 ⟨hb, B1, d1, rfl, hs1⟩
  have ha := (Below.refl w1.heap.size w1).alloc (Nat.le_refl _) (.cells #[.slice B1 r1.length d1, .slice none 0 0] 54)
  have k0 := cell_keep (cell_keep k0 hb) ha
  have k1 := cell_keep (cell_keep k1 hb) ha
  have hs1 := ((nw_lt hs1).below ha).up ha.size
  have a1 : (w1.alloc (.cells #[.slice B1 r1.length d1, .slice none 0 0] 54)).cell? ⟨w1.heap.size, 0, none⟩ = some (.slice B1 r1.length d1) := by rw [cell_of_row _ _ _ _ _ _ (heap_alloc_new w1 _)]; rfl
  have b1 : (w1.alloc (.cells #[.slice B1 r1.length d1, .slice none 0 0] 54)).cell? ⟨w1.heap.size, 1, none⟩ = some (.slice none 0 0) := by rw [cell_of_row _ _ _ _ _ _ (heap_alloc_new w1 _)]; rfl
  have hbW1 := (hb0.trans (hb.mono hb0.size)).trans (ha.mono (hb0.trans (hb.mono hb0.size)).size)
  clear hb ha hb0
  go_wp2_with fail
  refine (C2.out _ hbW1).mono ?_
  rintro e w2 ⟨hb, B2, d2, rfl, hs2⟩
  have ha := (Below.refl w2.heap.size w2).alloc (Nat.le_refl _) (.cells #[.slice B2 r2.length d2, .slice none 0 0] 54)
  have k0 := cell_keep (cell_keep k0 hb) ha
  have k1 := cell_keep (cell_keep k1 hb) ha
  have a1 := cell_keep (cell_keep a1 hb) ha
  have b1 := cell_keep (cell_keep b1 hb) ha
  have hs1 := ((hs1.below hb).up hb.size |>.below ha).up ha.size
  have hs2 := ((nw_lt hs2).below ha).up ha.size
  have a2 : (w2.alloc (.cells #[.slice B2 r2.length d2, .slice none 0 0] 54)).cell? ⟨w2.heap.size, 0, none⟩ = some (.slice B2 r2.length d2) := by rw [cell_of_row _ _ _ _ _ _ (heap_alloc_new w2 _)]; rfl
  have b2 : (w2.alloc (.cells #[.slice B2 r2.length d2, .slice none 0 0] 54)).cell? ⟨w2.heap.size, 1, none⟩ = some (.slice none 0 0) := by rw [cell_of_row _ _ _ _ _ _ (heap_alloc_new w2 _)]; rfl
  have hbW2 := (hbW1.trans (hb.mono hbW1.size)).trans (ha.mono (hbW1.trans (hb.mono hbW1.size)).size)
  clear hb ha hbW1
  go_wp2_with fail
  refine (C3.out _ hbW2).mono ?_
  rintro e w3 ⟨hb, B3, d3, rfl, hs3⟩
  have ha := (Below.refl w3.heap.size w3).alloc (Nat.le_refl _) (.cells #[.slice B3 r1.length d3, .slice none 0 0] 54)
  have k0 := cell_keep (cell_keep k0 hb) ha
  have k1 := cell_keep (cell_keep k1 hb) ha
  have a1 := cell_keep (cell_keep a1 hb) ha
  have b1 := cell_keep (cell_keep b1 hb) ha
  have a2 := cell_keep (cell_keep a2 hb) ha
  have b2 := cell_keep (cell_keep b2 hb) ha
  have hs1 := ((hs1.below hb).up hb.size |>.below ha).up ha.size
  have hs2 := ((hs2.below hb).up hb.size |>.below ha).up ha.size
  have hs3 := ((nw_lt hs3).below ha).up ha.size
  have a3 : (w3.alloc (.cells #[.slice B3 r1.length d3, .slice none 0 0] 54)).cell? ⟨w3.heap.size, 0, none⟩ = some (.slice B3 r1.length d3) := by rw [cell_of_row _ _ _ _ _ _ (heap_alloc_new w3 _)]; rfl
  have b3 : (w3.alloc (.cells #[.slice B3 r1.length d3, .slice none 0 0] 54)).cell? ⟨w3.heap.size, 1, none⟩ = some (.slice none 0 0) := by rw [cell_of_row _ _ _ _ _ _ (heap_alloc_new w3 _)]; rfl
  have hbW3 := (hbW2.trans (hb.mono hbW2.size)).trans (ha.mono (hbW2.trans (hb.mono hbW2.size)).size)
  clear hb ha hbW2
  go_wp2_with fail
  refine (C4.out _ hbW3).mono ?_
  rintro e w4 ⟨hb, B4, d4, rfl, hs4⟩
  have ha := (Below.refl w4.heap.size w4).alloc (Nat.le_refl _) (.cells #[.slice B4 r2.length d4, .slice none 0 0] 54)
  have k0 := cell_keep (cell_keep k0 hb) ha
  have k1 := cell_keep (cell_keep k1 hb) ha
  have a1 := cell_keep (cell_keep a1 hb) ha
  have b1 := cell_keep (cell_keep b1 hb) ha
  have a2 := cell_keep (cell_keep a2 hb) ha
  have b2 := cell_keep (cell_keep b2 hb) ha
  have a3 := cell_keep (cell_keep a3 hb) ha
  have b3 := cell_keep (cell_keep b3 hb) ha
  have hs1 := ((hs1.below hb).up hb.size |>.below ha).up ha.size
  have hs2 := ((hs2.below hb).up hb.size |>.below ha).up ha.size
  have hs3 := ((hs3.below hb).up hb.size |>.below ha).up ha.size
  have hs4 := ((nw_lt hs4).below ha).up ha.size
  have a4 : (w4.alloc (.cells #[.slice B4 r2.length d4, .slice none 0 0] 54)).cell? ⟨w4.heap.size, 0, none⟩ = some (.slice B4 r2.length d4) := by rw [cell_of_row _ _ _ _ _ _ (heap_alloc_new w4 _)]; rfl
  have b4 : (w4.alloc (.cells #[.slice B4 r2.length d4, .slice none 0 0] 54)).cell? ⟨w4.heap.size, 1, none⟩ = some (.slice none 0 0) := by rw [cell_of_row _ _ _ _ _ _ (heap_alloc_new w4 _)]; rfl
  have hbW4 := (hbW3.trans (hb.mono hbW3.size)).trans (ha.mono (hbW3.trans (hb.mono hbW3.size)).size)
  clear hb ha hbW3
  have HS1 := Lib.hid hs1
  have HS2 := Lib.hid hs2
  have HS3 := Lib.hid hs3
  have HS4 := Lib.hid hs4
  clear hs1 hs2 hs3 hs4 k0 k1 C1 C2 C3 C4
  go_wp2_with (first | (go_at_call 31; (with_reducible refine (sameDisk_any _ B1 none B3 none _ d1 _ _ d3 _ r1 [] HS1.out (SlR.nil _ _ _ _) HS3.out (SlR.nil _ _ _ _) (by omega) (by omega)).mono ?_); rintro e w5 ⟨rfl, hb5⟩; have a2 := cell_keep a2 hb5; have b2 := cell_keep b2 hb5; have a4 := cell_keep a4 hb5; have b4 := cell_keep b4 hb5; have hb6 := hb5; have hs2 := (HS2.out.below hb5).up hb5.size; have hs4 := (HS4.out.below hb5).up hb5.size) | (go_at_call 31; (with_reducible refine (sameDisk_any _ B2 none B4 none _ d2 _ _ d4 _ r2 [] hs2 (SlR.nil _ _ _ _) hs4 (SlR.nil _ _ _ _) (by omega) (by omega)).mono ?_); rintro e w7 ⟨rfl, hb7⟩))
  go_ret
  exact ⟨rfl, (hbW4.trans (hb6.mono hbW4.size)).trans (hb7.mono (hbW4.trans (hb6.mono hbW4.size)).size)⟩

theorem walkDiskFalls (W : World) (x0 : Array Value) (a0 : ((List (List UInt8)) × ((List (Int × ((List UInt8) × Unit))) × Unit))) (h0 : (cStruct (cCons (cSlice (cArr 32 cByte)) (cCons (cSlice (cStruct (cCons (cInt .i64) (cCons (cArr 32 cByte) cEnd)))) cEnd))).rel W (lt W.heap.size) (.agg x0 : Value).cells.toList a0) (x1 : Int) (a1 : Int) (h1 : (cInt .i64).rel W (lt W.heap.size) (.int .i64 x1 : Value).cells.toList a1) :
    Calls Try.prog 14 #[.agg x0, .int .i64 x1] W fun e W' => e = .returned (.bool true) ∧ Below W.heap.size W W' := by
  obtain ⟨A, n, c, A', n', c', he, _, _, _, _, hl, hw⟩ := disk_arg h0
  obtain ⟨xs⟩ := x0
  simp only [Value.cells] at he
  subst he
  have hwx : (Lit.int .i64 x1).wf = true := by
    obtain ⟨e1, e2⟩ := h1
    simp [Value.cells] at e1
    rw [e1]
    exact e2
  exact falls_good W A A' n c n' c' _ _ x1 hwx hl hw
end Go.Proofs.Ytbpibblidokhfaa
