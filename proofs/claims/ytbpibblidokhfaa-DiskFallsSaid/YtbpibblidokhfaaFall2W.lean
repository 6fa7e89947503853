/- The walks of disk.Sync and disk.Crash. No condition. -/
import Derived.Test.YtbpibblidokhfaaFallW
namespace Go.Proofs.Ytbpibblidokhfaa
open Go.ChangeShapes Go.WideShapes Go.ChangeAt Go.RowKit Go.Deep

theorem nw_other {α : Type} {c : Cd α} {W w1 : World} {A : Option Addr} {n g : Nat} {xs : List α} (h : SlR c w1 (nw W w1) A n xs) (cs : Array Value) (hg : g < W.heap.size) : SlR c (w1.setRow g cs) (nw W w1) A n xs :=
  h.keep fun p hp => cell_setRow_other w1 g cs p (by have := hp.1; omega)

set_option maxRecDepth 100000 in
set_option maxHeartbeats 800000 in
theorem Sync_any (W : World) (A A' : Option Addr) (n c n' c' : Nat) (l : List (List UInt8)) (ws : List PutT) (h : SlR cSector W (lt W.heap.size) A n l) (h' : SlR cPut W (lt W.heap.size) A' n' ws) :
    Calls Try.prog 42 #[.agg #[.slice A n c, .slice A' n' c']] W (Fell (fun _ => true) l ws W) := by
  have C1 := Lib.hid (fun w (hb : Below W.heap.size W w) => fallSync_any w A A' n c n' c' l ws ((h.below hb).up hb.size) ((h'.below hb).up hb.size))
  unfold Fell at C1 ⊢
  generalize diskF l ws = f at C1 ⊢
  generalize (if f = 0 then setAt (fun _ => true) ws l else []) = r at C1 ⊢
  have hb0 : Below W.heap.size W ((W.alloc (.cells #[.slice A n c, .slice A' n' c'] 54)).alloc (.cells #[.slice none 0 0, .slice none 0 0] 54)) := ((Below.refl _ _).alloc (Nat.le_refl _) _).alloc (by simp) _
  clear h h'
  go_enter Try.func42, Try.ntmps42
  go_wp2_with fail
  refine (C1.out _ hb0).mono ?_
  rintro e w1 ⟨hb1, B, d, rfl, hs⟩
  have R1 := Lib.hid ((hb1.block _ (by simp)).trans (row_snd W _ _))
  have hbW1 := hb0.trans (hb1.mono hb0.size)
  have HS := Lib.hid hs
  clear hs hb1 hb0
  go_wp2_with (first | ((with_reducible refine wpList_store_row (o := ⟨none, _, _, _, _, _⟩) rfl 54 (.tmp 2) (.tmp 6) rfl (W.heap.size + 1) #[.slice B r.length d, .slice none 0 0] ?_ ?_ 54 _ R1.out ?_ ?_ (two_one _ _ _ _ _ _) ?_); rfl; rfl; exact sizeDisk; rfl))
  have hbf : Below W.heap.size W (w1.setRow (W.heap.size + 1) #[.slice B r.length d, .slice none 0 0]) := below_setRow hbW1 (by omega) _
  have HRF := setRow_heap w1 (W.heap.size + 1) _ #[.slice B r.length d, .slice none 0 0] _ _ R1.out
  have hsf := nw_other (g := W.heap.size + 1) HS.out #[.slice B r.length d, .slice none 0 0] (by simp)
  exact bodyPost_ret (v := .tuple #[.agg #[.slice B r.length d, .slice none 0 0], .int .i64 f]) (run_results_pair rfl (W.heap.size + 1) rfl #[.slice B r.length d, .slice none 0 0] HRF _ Try.underlying54 rfl sizeDisk (.int .i64 f) rfl) rfl
    ⟨hbf, B, d, rfl, hsf.more fun b hb => ⟨by have := hb.1; simp at this; omega, by rw [setRow_size]; exact hb.2⟩⟩

set_option maxRecDepth 100000 in
set_option maxHeartbeats 800000 in
theorem Crash_any (W : World) (x : Int) (hwx : (Lit.int .i64 x).wf = true) (A A' : Option Addr) (n c n' c' : Nat) (l : List (List UInt8)) (ws : List PutT) (h : SlR cSector W (lt W.heap.size) A n l) (h' : SlR cPut W (lt W.heap.size) A' n' ws) :
    Calls Try.prog 43 #[.agg #[.slice A n c, .slice A' n' c'], .int .i64 x] W (Fell (bitAt x) l ws W) := by
  have hb0 : Below W.heap.size W (((W.alloc (.cells #[.slice A n c, .slice A' n' c'] 54)).alloc (.cells #[.int .i64 x] 3)).alloc (.cells #[.slice none 0 0, .slice none 0 0] 54)) := (((Below.refl _ _).alloc (Nat.le_refl _) _).alloc (by simp) _).alloc (by simp; omega) _
  have C1 := Lib.hid (fun w (hb : Below W.heap.size W w) (hp : W.heap.size + 1 < w.heap.size) (hx : w.cell? ⟨W.heap.size + 1, 0, none⟩ = some (.int .i64 x)) => fallCrash_any w x (W.heap.size + 1) A A' n c n' c' l ws hwx hp hx ((h.below hb).up hb.size) ((h'.below hb).up hb.size))
  unfold Fell at C1 ⊢
  generalize diskF l ws = f at C1 ⊢
  generalize (if f = 0 then setAt (bitAt x) ws l else []) = r at C1 ⊢
  have hx0 : (((W.alloc (.cells #[.slice A n c, .slice A' n' c'] 54)).alloc (.cells #[.int .i64 x] 3)).alloc (.cells #[.slice none 0 0, .slice none 0 0] 54)).cell? ⟨W.heap.size + 1, 0, none⟩ = some (.int .i64 x) := by
    refine cell_keep ?_ ((Below.refl _ _).alloc (Nat.le_refl _) _)
    rw [cell_of_row _ _ _ _ _ _ (row_snd W _ _)]; rfl
  have hr2 : (((W.alloc (.cells #[.slice A n c, .slice A' n' c'] 54)).alloc (.cells #[.int .i64 x] 3)).alloc (.cells #[.slice none 0 0, .slice none 0 0] 54)).heap[W.heap.size + 2]? = some (.cells #[.slice none 0 0, .slice none 0 0] 54 (0, 0)) := by
    have := row_snd (W.alloc (.cells #[.slice A n c, .slice A' n' c'] 54)) (.cells #[.int .i64 x] 3) (.cells #[.slice none 0 0, .slice none 0 0] 54)
    simpa using this
  clear h h' hwx
  go_enter Try.func43, Try.ntmps43
  go_wp2_with fail
  refine (C1.out _ hb0 (by simp) hx0).mono ?_
  rintro e w1 ⟨hb1, B, d, rfl, hs⟩
  have R1 := Lib.hid ((hb1.block _ (by simp)).trans hr2)
  have hbW1 := hb0.trans (hb1.mono hb0.size)
  have HS := Lib.hid hs
  clear hs hb1 hb0 hr2 hx0
  go_wp2_with (first | ((with_reducible refine wpList_store_row (o := ⟨none, _, _, _, _, _⟩) rfl 54 (.tmp 4) (.tmp 9) rfl (W.heap.size + 2) #[.slice B r.length d, .slice none 0 0] ?_ ?_ 54 _ R1.out ?_ ?_ (two_one _ _ _ _ _ _) ?_); rfl; rfl; exact sizeDisk; rfl))
  have hbf : Below W.heap.size W (w1.setRow (W.heap.size + 2) #[.slice B r.length d, .slice none 0 0]) := below_setRow hbW1 (by omega) _
  have HRF := setRow_heap w1 (W.heap.size + 2) _ #[.slice B r.length d, .slice none 0 0] _ _ R1.out
  have hsf := nw_other (g := W.heap.size + 2) HS.out #[.slice B r.length d, .slice none 0 0] (by simp)
  exact bodyPost_ret (v := .tuple #[.agg #[.slice B r.length d, .slice none 0 0], .int .i64 f]) (run_results_pair rfl (W.heap.size + 2) rfl #[.slice B r.length d, .slice none 0 0] HRF _ Try.underlying54 rfl sizeDisk (.int .i64 f) rfl) rfl
    ⟨hbf, B, d, rfl, hsf.more fun b hb => ⟨by have := hb.1; simp at this; omega, by rw [setRow_size]; exact hb.2⟩⟩
end Go.Proofs.Ytbpibblidokhfaa
