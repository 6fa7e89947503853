/- The walks of disk.Check and of the reference's DiskFault and sectorFault. No condition. -/
import Derived.Test.YtbpibblidokhfaaRowW
namespace Go.Proofs.Ytbpibblidokhfaa
open Go.ChangeShapes Go.WideShapes Go.ChangeAt Go.RowKit Go.Deep

abbrev cSector : Cd (List UInt8) := cArr 32 cByte
abbrev PutT := Int × List UInt8 × Unit
abbrev cPut : Cd PutT := cStruct (cCons (cInt .i64) (cCons cSector cEnd))
theorem one_put : OneC cPut := one_struct (one_cons (one_int _) (one_cons (one_arr _ one_byte) one_end))
theorem sizePut : (Try.prog.info? 91).map (·.size) = some 33 := by kernel_rfl
theorem put_head {w : World} {S : Nat → Prop} {cs : List Value} {x : PutT} (h : cPut.rel w S cs x) : ∃ sc, cs = .int .i64 x.1 :: sc ∧ cSector.rel w S sc x.2.1 ∧ (Lit.int .i64 x.1).wf = true := by
  obtain ⟨l, r, rfl, ⟨rfl, hw⟩, l2, r2, rfl, h2, h3⟩ := h
  have h3 : r2 = [] := h3
  subst h3
  exact ⟨l2, by simp, h2, hw⟩

def diskF (l : List (List UInt8)) (ws : List PutT) : Int :=
  if l.length < 1 ∨ 400 < l.length ∨ 60 < ws.length then 1 else if ws.all (fun x => 0 ≤ x.1 ∧ x.1 < l.length) then 0 else 6
theorem diskF_size {l : List (List UInt8)} {ws : List PutT} (h : l.length < 1 ∨ 400 < l.length ∨ 60 < ws.length) : diskF l ws = 1 := by unfold diskF; rw [if_pos h]
theorem diskF_bad {l : List (List UInt8)} {ws : List PutT} {k : Nat} {x : PutT} (h : ¬ (l.length < 1 ∨ 400 < l.length ∨ 60 < ws.length)) (hx : ws[k]? = some x) (hn : ¬ (0 ≤ x.1 ∧ x.1 < l.length)) : diskF l ws = 6 := by
  unfold diskF
  rw [if_neg h, if_neg]
  intro hh
  have := List.all_eq_true.1 hh x (List.mem_of_getElem? hx)
  simp only [decide_eq_true_eq] at this
  exact hn this
theorem diskF_ok {l : List (List UInt8)} {ws : List PutT} (h : ¬ (l.length < 1 ∨ 400 < l.length ∨ 60 < ws.length)) (ha : ws.all (fun x => 0 ≤ x.1 ∧ x.1 < l.length) = true) : diskF l ws = 0 := by
  unfold diskF; rw [if_neg h, if_pos ha]
theorem all_snoc {α : Type} {p : α → Bool} {ws : List α} {k : Nat} {x : α} (hx : ws[k]? = some x) (ha : (ws.take k).all p = true) (hp : p x = true) : (ws.take (k + 1)).all p = true := by
  rw [List.take_add_one, hx, List.all_append, ha]
  simpa using hp

set_option maxRecDepth 100000 in
set_option maxHeartbeats 1600000 in
theorem Check_any (W : World) (A A' : Option Addr) (n c n' c' : Nat) (l : List (List UInt8)) (ws : List PutT) (h : SlR cSector W (lt W.heap.size) A n l) (h' : SlR cPut W (lt W.heap.size) A' n' ws) :
    Calls Try.prog 28 #[.agg #[.slice A n c, .slice A' n' c']] W fun e w' => e = .returned (.int .i64 (diskF l ws)) ∧ Below W.heap.size W w' := by
  have HL := Lib.hid h.1
  have HW := Lib.hid h'.1
  by_cases hs : n < 1 ∨ 400 < n ∨ 60 < n'
  · have HF := Lib.hid (diskF_size (l := l) (ws := ws) (by rw [HL.out, HW.out]; exact hs))
    clear h h'
    by_cases h1 : n < 1
    · go_enter Try.func28, Try.ntmps28
      go_wp2
      go_ret
      exact ⟨by rw [HF.out]; rfl, (Below.refl _ _).alloc (Nat.le_refl _) _⟩
    · by_cases h2 : 400 < n
      · go_enter Try.func28, Try.ntmps28
        go_wp2
        go_ret
        exact ⟨by rw [HF.out]; rfl, (Below.refl _ _).alloc (Nat.le_refl _) _⟩
      · have h3 : 60 < n' := by omega
        go_enter Try.func28, Try.ntmps28
        go_wp2
        go_ret
        exact ⟨by rw [HF.out]; rfl, (Below.refl _ _).alloc (Nat.le_refl _) _⟩
  · have HS := Lib.hid (show ¬ (l.length < 1 ∨ 400 < l.length ∨ 60 < ws.length) from by rw [HL.out, HW.out]; exact hs)
    have h1 : ¬ n < 1 := by omega
    have h2 : ¬ 400 < n := by omega
    have h3 : ¬ 60 < n' := by omega
    clear hs
    have H := Lib.hid h
    have H' := Lib.hid h'
    clear h h'
    go_enter Try.func28, Try.ntmps28
    go_wp2
    go_loopw [24] (fun i wr => ∃ k : Nat, k ≤ n' ∧ i = .int .i64 k ∧ (ws.take k).all (fun x => 0 ≤ x.1 ∧ x.1 < l.length) = true ∧ Below (W.heap.size + 1) (W.alloc (.cells #[.slice A n c, .slice A' n' c'] 54)) wr) (fun i _ => n' - (intOf i).toNat)
    case atStart => exact ⟨0, Nat.zero_le _, rfl, rfl, Below.refl _ _⟩
    case round =>
      obtain ⟨k, hk, rfl, hall, hbel⟩ := hrel
      have hd := (hbel.cell (p := ⟨W.heap.size, 0, none⟩) (Nat.lt_succ_self _)).trans (show _ = some (Value.slice A n c) from by rw [cell_of_row _ _ _ _ _ _ (heap_alloc_new W _)]; rfl)
      have hbW : Below W.heap.size W wr := ((Below.refl _ _).alloc (Nat.le_refl _) _).trans (hbel.mono (Nat.le_succ _))
      have HA := Lib.hid hall
      clear hall
      by_cases hlt : k < n'
      · obtain ⟨b, o, rfl, hb, x, cs, hx, hat, hcl, hr⟩ := H'.out.elemAt hlt
        have HO := Lib.hid (one_put _ _ _ _ hr)
        obtain ⟨sc, rfl, _, _⟩ := put_head hr
        have hat' : wr.rangeAt b (o + k * 33) (.int .i64 x.1 :: sc) := rangeAt_below hat hbW hb
        have HX := Lib.hid hx
        have HC := Lib.hid (show (Try.prog.info? 91).map (·.size) = some (Value.int .i64 x.1 :: sc).length from by rw [hcl]; exact sizePut)
        have HZ := Lib.hid (show 33 = (Value.int .i64 x.1 :: sc).toArray.size from by rw [List.size_toArray, hcl]; rfl)
        have HAT := Lib.hid hat'
        clear hat hr hx hcl hat'
        have hc0 : (wr.alloc (.cells (Value.int .i64 x.1 :: sc).toArray 91)).cell? ⟨wr.heap.size, 0, none⟩ = some (.int .i64 x.1) := by rw [cell_of_row _ _ _ _ _ _ (heap_alloc_new wr _)]; rfl
        have hd2 : (wr.alloc (.cells (Value.int .i64 x.1 :: sc).toArray 91)).cell? ⟨W.heap.size, 0, none⟩ = some (.slice A n c) := by
          rw [World.cell?_alloc_lt _ _ _ (show (⟨W.heap.size, 0, none⟩ : Addr).block < wr.heap.size from by have := hbel.size; simp at this; show W.heap.size < _; omega)]
          exact hd
        clear hd
        generalize hv : x.1 = v at *
        have HV := Lib.hid hv
        clear hv
        by_cases hn0 : v < 0
        · have HF := Lib.hid (diskF_bad HS.out HX.out (by rw [HV.out]; omega))
          go_wp2_with (first | ((with_reducible refine wpList_load_mid (op := ⟨some 27, _, _, _, _, _⟩) rfl 91 (.tmp 26) rfl b (o + k * 33) ?_ (.int .i64 v :: sc) _ HAT.out Try.underlying91 rfl HC.out ?_); rfl) | ((with_reducible refine wpList_store_new (o := ⟨none, _, _, _, _, _⟩) rfl 91 (.tmp 4) (.tmp 27) rfl _ (.int .i64 v :: sc).toArray ?_ ?_ ?_ HZ.out ?_ ?_); rfl; rfl; (simpa using HC.out); (simpa using HO.out)))
          go_ret
          exact ⟨by rw [HF.out]; rfl, hbW.alloc hbW.size _⟩
        · by_cases hn1 : v < (n : Int)
          · have HK := Lib.hid (all_snoc (p := fun x : PutT => decide (0 ≤ x.1 ∧ x.1 < (l.length : Int))) HX.out HA.out (by have e1 := HV.out; have e2 := HL.out; simp only [decide_eq_true_eq]; omega))
            go_wp2_with (first | ((with_reducible refine wpList_load_mid (op := ⟨some 27, _, _, _, _, _⟩) rfl 91 (.tmp 26) rfl b (o + k * 33) ?_ (.int .i64 v :: sc) _ HAT.out Try.underlying91 rfl HC.out ?_); rfl) | ((with_reducible refine wpList_store_new (o := ⟨none, _, _, _, _, _⟩) rfl 91 (.tmp 4) (.tmp 27) rfl _ (.int .i64 v :: sc).toArray ?_ ?_ ?_ HZ.out ?_ ?_); rfl; rfl; (simpa using HC.out); (simpa using HO.out)))
            go_roundw
            case rel => exact ⟨k + 1, by omega, by go_num, HK.out, hbel.alloc (by have := hbel.size; simp at this; omega) _⟩
            case measure => simp [intOf]; omega
          · have HF := Lib.hid (diskF_bad HS.out HX.out (by rw [HV.out, HL.out]; omega))
            have hn2 : (n : Int) ≤ v := by omega
            go_wp2_with (first | ((with_reducible refine wpList_load_mid (op := ⟨some 27, _, _, _, _, _⟩) rfl 91 (.tmp 26) rfl b (o + k * 33) ?_ (.int .i64 v :: sc) _ HAT.out Try.underlying91 rfl HC.out ?_); rfl) | ((with_reducible refine wpList_store_new (o := ⟨none, _, _, _, _, _⟩) rfl 91 (.tmp 4) (.tmp 27) rfl _ (.int .i64 v :: sc).toArray ?_ ?_ ?_ HZ.out ?_ ?_); rfl; rfl; (simpa using HC.out); (simpa using HO.out)))
            go_ret
            exact ⟨by rw [HF.out]; rfl, hbW.alloc hbW.size _⟩
      · obtain rfl : k = n' := by omega
        have he : ws.take k = ws := List.take_of_length_le (by have := HW.out; omega)
        have hA := HA.out
        rw [he] at hA
        have HF := Lib.hid (diskF_ok HS.out hA)
        clear hA he
        go_wp2
        go_ret
        exact ⟨by rw [HF.out]; rfl, hbW⟩
set_option maxRecDepth 100000 in
set_option maxHeartbeats 1600000 in
theorem DiskFault_any (W : World) (A A' : Option Addr) (n c n' c' : Nat) (l : List (List UInt8)) (ws : List PutT) (h : SlR cSector W (lt W.heap.size) A n l) (h' : SlR cPut W (lt W.heap.size) A' n' ws) :
    Calls Try.prog 30 #[.agg #[.slice A n c, .slice A' n' c']] W fun e w' => e = .returned (.int .i64 (diskF l ws)) ∧ Below W.heap.size W w' := by
  have HL := Lib.hid h.1
  have HW := Lib.hid h'.1
  by_cases hs : n < 1 ∨ 400 < n ∨ 60 < n'
  · have HF := Lib.hid (diskF_size (l := l) (ws := ws) (by rw [HL.out, HW.out]; exact hs))
    clear h h'
    by_cases h1 : n = 0
    · subst h1
      go_enter Try.func30, Try.ntmps30
      go_wp2
      go_ret
      exact ⟨by rw [HF.out]; rfl, (Below.refl _ _).alloc (Nat.le_refl _) _⟩
    · have h10 : ((n : Int) == 0) = false := by simp; omega
      by_cases h2 : 400 < n
      · go_enter Try.func30, Try.ntmps30
        go_wp2
        go_ret
        exact ⟨by rw [HF.out]; rfl, (Below.refl _ _).alloc (Nat.le_refl _) _⟩
      · have h3 : 60 < n' := by omega
        go_enter Try.func30, Try.ntmps30
        go_wp2
        go_ret
        exact ⟨by rw [HF.out]; rfl, (Below.refl _ _).alloc (Nat.le_refl _) _⟩
  · have HS := Lib.hid (show ¬ (l.length < 1 ∨ 400 < l.length ∨ 60 < ws.length) from by rw [HL.out, HW.out]; exact hs)
    have h1 : ¬ n = 0 := by omega
    have h10 : ((n : Int) == 0) = false := by simp; omega
    have h2 : ¬ 400 < n := by omega
    have h3 : ¬ 60 < n' := by omega
    clear hs
    have H := Lib.hid h
    have H' := Lib.hid h'
    clear h h'
    go_enter Try.func30, Try.ntmps30
    go_wp2
    go_loopw [24] (fun i wr => ∃ k : Nat, k ≤ n' ∧ i = .int .i64 k ∧ (ws.take k).all (fun x => 0 ≤ x.1 ∧ x.1 < l.length) = true ∧ Below (W.heap.size + 1) (W.alloc (.cells #[.slice A n c, .slice A' n' c'] 54)) wr) (fun i _ => n' - (intOf i).toNat)
    case atStart => exact ⟨0, Nat.zero_le _, rfl, rfl, Below.refl _ _⟩
    case round =>
      obtain ⟨k, hk, rfl, hall, hbel⟩ := hrel
      have hbW : Below W.heap.size W wr := ((Below.refl _ _).alloc (Nat.le_refl _) _).trans (hbel.mono (Nat.le_succ _))
      have HA := Lib.hid hall
      clear hall
      by_cases hlt : k < n'
      · obtain ⟨b, o, rfl, hb, x, cs, hx, hat, hcl, hr⟩ := H'.out.elemAt hlt
        have HO := Lib.hid (one_put _ _ _ _ hr)
        obtain ⟨sc, rfl, _, _⟩ := put_head hr
        have hat' : wr.rangeAt b (o + k * 33) (.int .i64 x.1 :: sc) := rangeAt_below hat hbW hb
        have HX := Lib.hid hx
        have HC := Lib.hid (show (Try.prog.info? 91).map (·.size) = some (Value.int .i64 x.1 :: sc).length from by rw [hcl]; exact sizePut)
        have HZ := Lib.hid (show 33 = (Value.int .i64 x.1 :: sc).toArray.size from by rw [List.size_toArray, hcl]; rfl)
        have HAT := Lib.hid hat'
        clear hat hr hx hcl hat'
        have hc0 : (wr.alloc (.cells (Value.int .i64 x.1 :: sc).toArray 91)).cell? ⟨wr.heap.size, 0, none⟩ = some (.int .i64 x.1) := by rw [cell_of_row _ _ _ _ _ _ (heap_alloc_new wr _)]; rfl
        generalize hv : x.1 = v at *
        have HV := Lib.hid hv
        clear hv
        by_cases hn0 : v < 0
        · have HF := Lib.hid (diskF_bad HS.out HX.out (by rw [HV.out]; omega))
          go_wp2_with (first | ((with_reducible refine wpList_load_mid (op := ⟨some 27, _, _, _, _, _⟩) rfl 91 (.tmp 26) rfl b (o + k * 33) ?_ (.int .i64 v :: sc) _ HAT.out Try.underlying91 rfl HC.out ?_); rfl) | ((with_reducible refine wpList_store_new (o := ⟨none, _, _, _, _, _⟩) rfl 91 (.tmp 5) (.tmp 27) rfl _ (.int .i64 v :: sc).toArray ?_ ?_ ?_ HZ.out ?_ ?_); rfl; rfl; (simpa using HC.out); (simpa using HO.out)))
          go_ret
          exact ⟨by rw [HF.out]; rfl, hbW.alloc hbW.size _⟩
        · by_cases hn1 : v < (n : Int)
          · have HK := Lib.hid (all_snoc (p := fun x : PutT => decide (0 ≤ x.1 ∧ x.1 < (l.length : Int))) HX.out HA.out (by have e1 := HV.out; have e2 := HL.out; simp only [decide_eq_true_eq]; omega))
            go_wp2_with (first | ((with_reducible refine wpList_load_mid (op := ⟨some 27, _, _, _, _, _⟩) rfl 91 (.tmp 26) rfl b (o + k * 33) ?_ (.int .i64 v :: sc) _ HAT.out Try.underlying91 rfl HC.out ?_); rfl) | ((with_reducible refine wpList_store_new (o := ⟨none, _, _, _, _, _⟩) rfl 91 (.tmp 5) (.tmp 27) rfl _ (.int .i64 v :: sc).toArray ?_ ?_ ?_ HZ.out ?_ ?_); rfl; rfl; (simpa using HC.out); (simpa using HO.out)))
            go_roundw
            case rel => exact ⟨k + 1, by omega, by go_num, HK.out, hbel.alloc (by have := hbel.size; simp at this; omega) _⟩
            case measure => simp [intOf]; omega
          · have HF := Lib.hid (diskF_bad HS.out HX.out (by rw [HV.out, HL.out]; omega))
            have hn2 : (n : Int) ≤ v := by omega
            go_wp2_with (first | ((with_reducible refine wpList_load_mid (op := ⟨some 27, _, _, _, _, _⟩) rfl 91 (.tmp 26) rfl b (o + k * 33) ?_ (.int .i64 v :: sc) _ HAT.out Try.underlying91 rfl HC.out ?_); rfl) | ((with_reducible refine wpList_store_new (o := ⟨none, _, _, _, _, _⟩) rfl 91 (.tmp 5) (.tmp 27) rfl _ (.int .i64 v :: sc).toArray ?_ ?_ ?_ HZ.out ?_ ?_); rfl; rfl; (simpa using HC.out); (simpa using HO.out)))
            go_ret
            exact ⟨by rw [HF.out]; rfl, hbW.alloc hbW.size _⟩
      · obtain rfl : k = n' := by omega
        have he : ws.take k = ws := List.take_of_length_le (by have := HW.out; omega)
        have hA := HA.out
        rw [he] at hA
        have HF := Lib.hid (diskF_ok HS.out hA)
        clear hA he
        go_wp2
        go_ret
        exact ⟨by rw [HF.out]; rfl, hbW⟩
end Go.Proofs.Ytbpibblidokhfaa
