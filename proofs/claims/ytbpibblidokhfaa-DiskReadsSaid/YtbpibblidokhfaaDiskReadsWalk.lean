/- The walk of DiskReads: it returns true, and nothing that was there is turned. -/
import Derived.Test.YtbpibblidokhfaaDisk3W
namespace Go.Proofs.Ytbpibblidokhfaa
open Go.ChangeShapes Go.WideShapes Go.ChangeAt Go.RowKit Go.Deep

theorem rangeAt_head {w : World} {b o : Nat} {v : Value} {cs : List Value} (h : w.rangeAt b o (v :: cs)) : w.cell? ⟨b, o, none⟩ = some v := by
  have := h 0 v rfl
  simpa using this
theorem rangeAt_tail {w : World} {b o : Nat} {v : Value} {cs : List Value} (h : w.rangeAt b o (v :: cs)) : w.rangeAt b (o + 1) cs := fun j u hu => by
  have := h (j + 1) u (by simpa using hu)
  rw [Nat.add_assoc, Nat.add_comm 1 j]
  exact this

set_option maxRecDepth 100000 in
set_option maxHeartbeats 1600000 in
theorem SectorOf_any (W : World) (A A' : Option Addr) (n c n' c' : Nat) (l : List (List UInt8)) (ws : List PutT) (i : Int) (h : SlR cSector W (lt W.heap.size) A n l) (h' : SlR cPut W (lt W.heap.size) A' n' ws) :
    Calls Try.prog 39 #[.agg #[.slice A n c, .slice A' n' c'], .int .i64 i] W (Told l ws i W) := by
  have C1 := Lib.hid (fun w (hb : Below W.heap.size W w) => sectorFault_any w A A' n c n' c' l ws i ((h.below hb).up hb.size) ((h'.below hb).up hb.size))
  have hb0 : ∀ zs, Below W.heap.size W ((W.alloc (.cells #[.slice A n c, .slice A' n' c'] 54)).alloc (.cells zs 76)) := fun zs => ((Below.refl _ _).alloc (Nat.le_refl _) _).alloc (by simp) _
  have HL := Lib.hid h.1
  have H := Lib.hid h
  have H' := Lib.hid h'
  clear h h'
  by_cases hf : readF l ws i = 0
  · have hd : diskF l ws = 0 := by
      by_cases hd : diskF l ws = 0
      · exact hd
      · rw [readF_bad hd] at hf; exact absurd hf hd
    have hi : ¬ (i < 0 ∨ (n : Int) ≤ i) := by
      intro hi
      rw [readF_out hd (by rw [HL.out]; exact hi)] at hf
      cases hf
    have hn60 : n' ≤ 60 := by have := diskF_sizes hd; have := H'.out.1; omega
    rw [hf] at C1
    have HF := Lib.hid hf
    obtain ⟨m, rfl⟩ := Int.eq_ofNat_of_zero_le (show 0 ≤ i by omega)
    have hm : m < n := by omega
    obtain ⟨b, o, rfl, hb, x, cs, hx, hat, hcl, hr⟩ := H.out.elemAt hm
    obtain ⟨rfl, hx32⟩ := sector_cells hr
    have HX := Lib.hid (show l[(m : Int).toNat]? = some x from hx)
    have HC := Lib.hid (show (Try.prog.info? 76).map (·.size) = some (encS x).length from by rw [hcl]; exact sizeSector)
    have HZ := Lib.hid (show (encS zeroL).toArray.size = (encS x).toArray.size from by rw [List.size_toArray, List.size_toArray, encS_length, encS_length, hx32]; rfl)
    have HCA := Lib.hid (show (Try.prog.info? 76).map (·.size) = some (encS x).toArray.size from by rw [List.size_toArray]; exact HC.out)
    clear hf hd hi hx hcl hr
    go_enter Try.func39, Try.ntmps39
    go_wp2_with fail
    refine (C1.out _ (hb0 _)).mono ?_
    rintro e w1 ⟨rfl, hb1⟩
    have r0 := (hb1.block _ (by simp; omega)).trans (row_fst W _ _)
    have R1 := Lib.hid (show w1.heap[W.heap.size + 1]? = some (.cells (encS zeroL).toArray 76 (0, 0)) from (hb1.block _ (by simp)).trans (row_snd W _ _))
    have k0 : w1.cell? ⟨W.heap.size, 0, none⟩ = some (.slice (some ⟨b, o, none⟩) n c) := by rw [cell_of_row _ _ _ _ _ _ r0]; rfl
    have k1 : w1.cell? ⟨W.heap.size, 1, none⟩ = some (.slice A' n' c') := by rw [cell_of_row _ _ _ _ _ _ r0]; rfl
    have hbW1 := (hb0 _).trans (hb1.mono (hb0 _).size)
    have HAT := Lib.hid (show w1.rangeAt b (o + m * 32) (encS x) from rangeAt_below hat hbW1 hb)
    clear hb1 hb0 r0 hat
    go_wp2_with fail
    go_loopw [7] (fun i wr => ∃ z : Int, i = .int .i64 z ∧ -1 ≤ z ∧ z < n' ∧ wr = w1 ∧ (ws.drop (z + 1).toNat).all (fun w => w.1 ≠ (m : Int)) = true) (fun i _ => (intOf i + 1).toNat)
    case atStart =>
      refine ⟨(n' : Int) - 1, by go_num, by omega, by omega, rfl, ?_⟩
      rw [show ((n' : Int) - 1 + 1).toNat = n' by omega, List.drop_of_length_le (by have := H'.out.1; omega)]
      rfl
    case round =>
      obtain ⟨z, rfl, hz1, hz2, hwr, hall⟩ := hrel
      obtain rfl : w1 = wr := hwr.symm
      by_cases hz : z < 0
      · obtain rfl : z = -1 := by omega
        have HG := Lib.hid (lastPut_none (b := x) (i := (m : Int)) (ws := ws) hall)
        clear hall
        go_wp2_with (first | ((with_reducible refine wpList_load_mid (op := ⟨some 41, _, _, _, _, _⟩) rfl 76 (.tmp 40) rfl b (o + m * 32) ?_ (encS x) _ HAT.out Try.underlying76 rfl HC.out ?_); rfl) | ((with_reducible refine wpList_store_row (o := ⟨none, _, _, _, _, _⟩) rfl 76 (.tmp 4) (.tmp 41) rfl (W.heap.size + 1) (encS x).toArray ?_ ?_ 76 _ R1.out HCA.out HZ.out (encS_one _) ?_); rfl; rfl))
        have hbf : Below W.heap.size W (w1.setRow (W.heap.size + 1) (encS x).toArray) := below_setRow hbW1 (by omega) _
        have HRF := Lib.hid (row_at (setRow_heap w1 (W.heap.size + 1) _ (encS x).toArray _ _ R1.out))
        exact bodyPost_ret (run_results_row2 rfl (W.heap.size + 1) rfl (encS x) _ HRF.out Try.underlying76 rfl HC.out (.int .i64 0) rfl) rfl (Told.good HF.out HX.out HG.out hbf rfl)
      · obtain ⟨j, rfl⟩ := Int.eq_ofNat_of_zero_le (show 0 ≤ z by omega)
        have hjn : j < n' := by omega
        obtain ⟨b', o', rfl, hb', p, cs', hx', hat', hcl', hr'⟩ := H'.out.elemAt hjn
        obtain ⟨sc, rfl, hsec, _⟩ := put_head hr'
        obtain ⟨rfl, hp32⟩ := sector_cells hsec
        have hat2 : w1.rangeAt b' (o' + j * 33) (.int .i64 p.1 :: encS p.2.1) := rangeAt_below hat' hbW1 hb'
        have hc0 := rangeAt_head hat2
        have HT := Lib.hid (rangeAt_tail hat2)
        have HX2 := Lib.hid hx'
        have hall' : (ws.drop (j + 1)).all (fun w => w.1 ≠ (m : Int)) = true := hall
        have HALL := Lib.hid hall'
        clear hat' hr' hx' hcl' hsec hat2 hall hall'
        generalize hv : p.1 = v at *
        have HV := Lib.hid hv
        by_cases he : v = (m : Int)
        · have HG := Lib.hid (lastPut_hit (b := x) HX2.out (HV.out.trans he) HALL.out)
          have HC2 := Lib.hid (show (Try.prog.info? 76).map (·.size) = some (encS p.2.1).length from by rw [encS_length, hp32]; exact sizeSector)
          have HZ2 := Lib.hid (show (encS zeroL).toArray.size = (encS p.2.1).toArray.size from by rw [List.size_toArray, List.size_toArray, encS_length, encS_length, hp32]; rfl)
          have HCA2 := Lib.hid (show (Try.prog.info? 76).map (·.size) = some (encS p.2.1).toArray.size from by rw [List.size_toArray]; exact HC2.out)
          clear hv
          subst he
          go_wp2_with (first | ((with_reducible refine wpList_load_mid (op := ⟨some 36, _, _, _, _, _⟩) rfl 76 (.tmp 35) rfl b' (o' + j * 33 + 1) ?_ (encS p.2.1) _ HT.out Try.underlying76 rfl HC2.out ?_); rfl) | ((with_reducible refine wpList_store_row (o := ⟨none, _, _, _, _, _⟩) rfl 76 (.tmp 4) (.tmp 36) rfl (W.heap.size + 1) (encS p.2.1).toArray ?_ ?_ 76 _ R1.out HCA2.out HZ2.out (encS_one _) ?_); rfl; rfl))
          have hbf : Below W.heap.size W (w1.setRow (W.heap.size + 1) (encS p.2.1).toArray) := below_setRow hbW1 (by omega) _
          have HRF := Lib.hid (row_at (setRow_heap w1 (W.heap.size + 1) _ (encS p.2.1).toArray _ _ R1.out))
          exact bodyPost_ret (run_results_row2 rfl (W.heap.size + 1) rfl (encS p.2.1) _ HRF.out Try.underlying76 rfl HC2.out (.int .i64 0) rfl) rfl (Told.good HF.out HX.out HG.out hbf rfl)
        · have he0 : (v == (m : Int)) = false := by simpa using he
          have HALL2 := Lib.hid (drop_all_cons (i := (m : Int)) HX2.out (by rw [HV.out]; exact he) HALL.out)
          clear hv
          go_wp2_with fail
          go_roundw
          case rel =>
            refine ⟨(j : Int) - 1, rfl, by omega, by omega, trivial, ?_⟩
            rw [show ((j : Int) - 1 + 1).toNat = j by omega]
            exact HALL2.out
          case measure => simp [intOf] <;> omega
  · have HF := Lib.hid (show readF l ws i = readF l ws i from rfl)
    have HN := Lib.hid hf
    clear hf
    generalize hfe : readF l ws i = f at C1 HF HN
    have HE := Lib.hid hfe
    clear hfe
    have hn := HN.out
    have hf0 : (f == 0) = false := by simpa using hn
    clear hn
    go_enter Try.func39, Try.ntmps39
    go_wp2_with fail
    refine (C1.out _ (hb0 _)).mono ?_
    rintro e w1 ⟨rfl, hb1⟩
    have R1 := Lib.hid (show w1.heap[W.heap.size + 1]? = some (.cells (encS zeroL).toArray 76 (0, 0)) from (hb1.block _ (by simp)).trans (row_snd W _ _))
    have hbW1 := (hb0 _).trans (hb1.mono (hb0 _).size)
    clear hb1 hb0
    go_wp2_with (first | ((with_reducible refine wpList_store_row (o := ⟨none, _, _, _, _, _⟩) rfl 76 (.tmp 4) (.tmp 13) rfl (W.heap.size + 1) (encS zeroL).toArray ?_ ?_ 76 _ R1.out ?_ ?_ (encS_one _) ?_); rfl; rfl; exact sizeSector; rfl))
    have hbf : Below W.heap.size W (w1.setRow (W.heap.size + 1) (encS zeroL).toArray) := below_setRow hbW1 (by omega) _
    have HRF := Lib.hid (row_at (setRow_heap w1 (W.heap.size + 1) _ (encS zeroL).toArray _ _ R1.out))
    exact bodyPost_ret (run_results_row2 rfl (W.heap.size + 1) rfl (encS zeroL) _ HRF.out Try.underlying76 rfl sizeSector (.int .i64 f) rfl) rfl (Told.bad HE.out HN.out hbf rfl)

theorem lastPut_length {i : Int} {ws : List PutT} {b : List UInt8} (h : ∀ p ∈ ws, p.2.1.length = 32) (hb : b.length = 32) : (lastPut i ws b).length = 32 := by
  induction ws generalizing b with
  | nil => exact hb
  | cons p ws ih =>
    unfold lastPut
    rw [List.foldl_cons]
    refine ih (fun q hq => h q (List.mem_cons_of_mem _ hq)) ?_
    split
    · exact h p (List.mem_cons_self ..)
    · exact hb
theorem readS_length {w : World} {S : Nat → Prop} {A A' : Option Addr} {n n' : Nat} {l : List (List UInt8)} {ws : List PutT} (h : SlR cSector w S A n l) (h' : SlR cPut w S A' n' ws) (i : Int) : (readS l ws i).length = 32 := by
  unfold readS
  split
  · refine lastPut_length (fun p hp => ?_) ?_
    · obtain ⟨k, hk, rfl⟩ := List.getElem_of_mem hp
      obtain ⟨b, o, _, _, x, cs, hx, _, _, hr⟩ := h'.elemAt (i := k) (by have := h'.1; omega)
      obtain ⟨sc, _, hsec, _⟩ := put_head hr
      rw [List.getElem?_eq_getElem hk] at hx
      obtain rfl := Option.some.inj hx
      exact (sector_cells hsec).2
    · cases hx : l[i.toNat]? with
      | none => rfl
      | some x =>
        have hk := (List.getElem?_eq_some_iff.1 hx).1
        obtain ⟨b, o, _, _, x', cs, hx', _, _, hr⟩ := h.elemAt (i := i.toNat) (by have := h.1; omega)
        rw [hx] at hx'
        obtain rfl := Option.some.inj hx'
        exact (sector_cells hr).2
  · rfl

theorem disk_arg {w : World} {S : Nat → Prop} {cs : List Value} {x : (List (List UInt8)) × (List PutT) × Unit} (h : (cStruct (cCons (cSlice cSector) (cCons (cSlice cPut) cEnd))).rel w S cs x) :
    ∃ A n c A' n' c', cs = [.slice A n c, .slice A' n' c'] ∧ n ≤ c ∧ c ≤ maxLen ∧ n' ≤ c' ∧ c' ≤ maxLen ∧ SlR cSector w S A n x.1 ∧ SlR cPut w S A' n' x.2.1 := by
  obtain ⟨l, r, rfl, ⟨A, n, c, rfl, h1, h2, h3⟩, l2, r2, rfl, ⟨A', n', c', rfl, h4, h5, h6⟩, h7⟩ := h
  have h7 : r2 = [] := h7
  subst h7
  exact ⟨A, n, c, A', n', c', rfl, h1, h2, h4, h5, h3, h6⟩

set_option maxRecDepth 100000 in
set_option maxHeartbeats 1600000 in
theorem reads_good (W : World) (A A' : Option Addr) (n c n' c' : Nat) (l : List (List UInt8)) (ws : List PutT) (x1 : Int) (hl : SlR cSector W (lt W.heap.size) A n l) (hw : SlR cPut W (lt W.heap.size) A' n' ws) :
    Calls Try.prog 12 #[.agg #[.slice A n c, .slice A' n' c'], .int .i64 x1] W fun e W' => e = .returned (.bool true) ∧ Below W.heap.size W W' := by
  have hlen := readS_length hl hw x1
  have C1 := Lib.hid (fun w (hb : Below W.heap.size W w) => Read_any w A A' n c n' c' l ws x1 ((hl.below hb).up hb.size) ((hw.below hb).up hb.size))
  have C2 := Lib.hid (fun w (hb : Below W.heap.size W w) => SectorOf_any w A A' n c n' c' l ws x1 ((hl.below hb).up hb.size) ((hw.below hb).up hb.size))
  unfold Told at C1 C2
  clear hl hw
  generalize readF l ws x1 = f at C1 C2
  generalize readS l ws x1 = r at C1 C2 hlen
  have hb0 : Below W.heap.size W (W.alloc (.cells #[.slice A n c, .slice A' n' c'] 54)) := (Below.refl _ _).alloc (Nat.le_refl _) _
  have HC := Lib.hid (show (Try.prog.info? 76).map (·.size) = some (encS r).length from by rw [encS_length, hlen]; exact sizeSector)
  have HCA := Lib.hid (show (Try.prog.info? 76).map (·.size) = some (encS r).toArray.size from by rw [List.size_toArray]; exact HC.out)
  have HZ := Lib.hid (show 32 = (encS r).toArray.size from by rw [List.size_toArray, encS_length, hlen])
  have HO := Lib.hid (show ∀ v ∈ (encS r).toArray, v.oneCell' = true from Array.all_eq_true_iff_forall_mem.1 (encS_one r))
  have heq : ∀ w, (Op.equalIn 10000 76 (.agg (encS r).toArray) (.agg (encS r).toArray)).run Try.prog w = .ok true w := selfSector.eq _ _ _ _ (sector_enc W (lt W.heap.size) hlen) 10000 (by decide)
  clear hlen
  go_enter Try.func12, Try.ntmps12
  go_wp2_with fail
  refine (C1.out _ hb0).mono ?_
  rintro e w1 ⟨rfl, hb1⟩
  have k0 : w1.cell? ⟨W.heap.size, 0, none⟩ = some (.slice A n c) := by rw [hb1.cell (by simp), cell_of_row _ _ _ _ _ _ (heap_alloc_new W _)]; rfl
  have k1 : w1.cell? ⟨W.heap.size, 1, none⟩ = some (.slice A' n' c') := by rw [hb1.cell (by simp), cell_of_row _ _ _ _ _ _ (heap_alloc_new W _)]; rfl
  have hbW1 := hb0.trans (hb1.mono hb0.size)
  have hba : Below w1.heap.size w1 (w1.alloc (.cells (encS r).toArray 76)) := (Below.refl _ _).alloc (Nat.le_refl _) _
  have k0 := cell_keep k0 hba
  have k1 := cell_keep k1 hba
  clear hb1 hb0
  go_wp2_with (first | ((with_reducible refine wpList_store_new (o := ⟨none, _, _, _, _, _⟩) rfl 76 (.tmp 5) (.tmp 13) rfl _ (encS r).toArray ?_ ?_ ?_ ?_ ?_ ?_); rfl; rfl; exact HCA.out; exact HZ.out; exact HO.out))
  have hbW2 := hbW1.trans (hba.mono hbW1.size)
  have r5 : (w1.alloc (.cells (encS r).toArray 76)).heap[w1.heap.size]? = some (.cells (encS r).toArray 76 (0, 0)) := heap_alloc_last w1 _
  have hsz := hba.size
  have hsz1 : w1.heap.size < (w1.alloc (.cells (encS r).toArray 76)).heap.size := by simp
  clear hba hbW1
  refine (C2.out _ hbW2).mono ?_
  rintro e w3 ⟨rfl, hb3⟩
  have r5 := (hb3.block _ hsz1).trans r5
  have hbW3 := hbW2.trans (hb3.mono hbW2.size)
  have hs3 := hb3.size
  have hba : Below w3.heap.size w3 (w3.alloc (.cells (encS r).toArray 76)) := (Below.refl _ _).alloc (Nat.le_refl _) _
  have R5 := Lib.hid (row_at ((hba.block _ (by omega)).trans r5))
  have R7 := Lib.hid (row_at (heap_alloc_last w3 (.cells (encS r).toArray 76)))
  have hbW4 := hbW3.trans (hba.mono hbW3.size)
  clear hb3 hbW2 r5 hbW3 hba k0 k1
  go_wp2_with (first | ((with_reducible refine wpList_store_new (o := ⟨none, _, _, _, _, _⟩) rfl 76 (.tmp 7) (.tmp 19) rfl _ (encS r).toArray ?_ ?_ ?_ ?_ ?_ ?_); rfl; rfl; exact HCA.out; exact HZ.out; exact HO.out) | ((with_reducible refine wpList_on_load_mid (op := ⟨some 25, _, _, _, _, _⟩) ?_ 76 (.tmp 5) rfl w1.heap.size 0 ?_ (encS r) _ R5.out Try.underlying76 rfl HC.out ?_); rfl; rfl) | ((with_reducible refine wpList_on_load_mid (op := ⟨some 26, _, _, _, _, _⟩) ?_ 76 (.tmp 7) rfl w3.heap.size 0 ?_ (encS r) _ R7.out Try.underlying76 rfl HC.out ?_); rfl; rfl))
  go_ret
  exact ⟨rfl, hbW4⟩

theorem walkDiskReads (W : World) (x0 : Array Value) (a0 : ((List (List UInt8)) × ((List (Int × ((List UInt8) × Unit))) × Unit))) (h0 : (cStruct (cCons (cSlice (cArr 32 cByte)) (cCons (cSlice (cStruct (cCons (cInt .i64) (cCons (cArr 32 cByte) cEnd)))) cEnd))).rel W (lt W.heap.size) (.agg x0 : Value).cells.toList a0) (x1 : Int) (a1 : Int) (h1 : (cInt .i64).rel W (lt W.heap.size) (.int .i64 x1 : Value).cells.toList a1) :
    Calls Try.prog 12 #[.agg x0, .int .i64 x1] W fun e W' => e = .returned (.bool true) ∧ Below W.heap.size W W' := by
  obtain ⟨A, n, c, A', n', c', he, _, _, _, _, hl, hw⟩ := disk_arg h0
  obtain ⟨xs⟩ := x0
  simp only [Value.cells] at he
  subst he
  clear h1 a1
  obtain ⟨l, ws, _⟩ := a0
  have hl : SlR cSector W (lt W.heap.size) A n l := hl
  have hw : SlR cPut W (lt W.heap.size) A' n' ws := hw
  clear h0
  exact reads_good W A A' n c n' c' l ws x1 hl hw
end Go.Proofs.Ytbpibblidokhfaa
