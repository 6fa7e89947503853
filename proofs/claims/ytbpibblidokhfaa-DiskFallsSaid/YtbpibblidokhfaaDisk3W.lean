/- The walks of disk.Read and of the reference's SectorOf. No condition. -/
import Derived.Test.YtbpibblidokhfaaDisk2W
import Derived.Laws.CopyOwn
namespace Go.Proofs.Ytbpibblidokhfaa
open Go.ChangeShapes Go.WideShapes Go.ChangeAt Go.RowKit Go.Deep

/-- a guarded load that is wanted -/
theorem wpList_on_load_mid {P : Program} {ops : Array Oper} {rest : List Oper} {op : Oper} {a : Act} {w : World} {Q : Exit → Act → World → Prop} (hgd : Region.wanted op (yielded ops a.tmps) = true) (ty : TypeId) (x : Operand) (ho : op.op = .load ty x)
    (b o : Nat) (hx : a.eval x = .pointer (some ⟨b, o, none⟩)) (cs : List Value) (d : TypeDesc) (hc : w.rangeAt b o cs)
    (hu : P.underlying ty = some d) (hd : d.isRow = true) (hi : (P.info? ty).map (·.size) = some cs.length)
    (h : wpList P ops Q rest (a.put op.dst (.agg cs.toArray)) w) : wpList P ops Q (op :: rest) a w :=
  wpList_step fun K hK => by simp only [hgd, if_true]; exact wp_load_mid ty x ho b o hx cs d hc hu hd hi (hK _ _ h)

/-- the results of a function whose first is a row in memory -/
theorem run_results_row2 {P : Program} {fn : Func} {tmps : Array Value} {w : World} {s q : Nat} {t : TypeId} (h : fn.results = #[.cell s t, .tmp q]) (g : Nat) (ha : tmps.getD s undef = .pointer (some ⟨g, 0, none⟩)) (cs : List Value) (d : TypeDesc) (hc : w.rangeAt g 0 cs)
    (hu : P.underlying t = some d) (hd : d.isRow = true) (hi : (P.info? t).map (·.size) = some cs.length) (v : Value) (hv : tmps.getD q undef = v) : (results fn tmps).run P w = .ok (.tuple #[.agg cs.toArray, v]) w := by
  unfold results
  rw [h]
  rw [Array.getD_eq_getD_getElem?] at ha hv
  have := run_loadVar_mid w g 0 t cs d hc hu hd hi
  simp [ha, hv, this, asAddr, Result.andThen]

/-- the cells of a sector -/
def encS (x : List UInt8) : List Value := x.map fun u => .int .u8 u.toNat
theorem sector_enc (w : World) (S : Nat → Prop) {x : List UInt8} (hx : x.length = 32) : cSector.rel w S (encS x) x := by
  refine ⟨by simp [encS, cByte, hx], hx, fun i y hy => ?_⟩
  have hi : i < x.length := (List.getElem?_eq_some_iff.1 hy).1
  have hy' : x[i] = y := (List.getElem?_eq_some_iff.1 hy).2
  simp only [cByte, Nat.mul_one, encS]
  rw [List.drop_eq_getElem_cons (by simpa using hi)]
  simp [hy']
theorem sector_cells {w : World} {S : Nat → Prop} {cs : List Value} {x : List UInt8} (h : cSector.rel w S cs x) : cs = encS x ∧ x.length = 32 :=
  ⟨det_sector _ _ _ _ _ _ _ h (sector_enc w S h.2.1), h.2.1⟩
theorem encS_length (x : List UInt8) : (encS x).length = x.length := by simp [encS]
theorem encS_one (x : List UInt8) : (encS x).toArray.all (·.oneCell') = true := by
  rw [Array.all_eq_true_iff_forall_mem]
  intro v hv
  simp [encS] at hv
  obtain ⟨u, _, rfl⟩ := hv
  rfl
theorem encS_zero : encS zeroL = List.replicate 32 (.int .u8 0) := by simp [encS, zeroL]

def lastPut (i : Int) (ws : List PutT) (b : List UInt8) : List UInt8 := ws.foldl (fun b w => if w.1 = i then w.2.1 else b) b
theorem lastPut_snoc {i : Int} {ws : List PutT} {b : List UInt8} {k : Nat} {x : PutT} (hx : ws[k]? = some x) : lastPut i (ws.take (k + 1)) b = if x.1 = i then x.2.1 else lastPut i (ws.take k) b := by
  unfold lastPut
  rw [List.take_add_one, hx]
  simp [List.foldl_append]
theorem lastPut_none {i : Int} {ws : List PutT} {b : List UInt8} (h : ws.all (fun w => w.1 ≠ i) = true) : lastPut i ws b = b := by
  induction ws generalizing b with
  | nil => rfl
  | cons w ws ih =>
    simp only [List.all_cons, Bool.and_eq_true, decide_eq_true_eq] at h
    unfold lastPut
    rw [List.foldl_cons, if_neg h.1]
    exact ih h.2
theorem lastPut_hit {i : Int} {ws : List PutT} {b : List UInt8} {k : Nat} {x : PutT} (hx : ws[k]? = some x) (he : x.1 = i) (h : (ws.drop (k + 1)).all (fun w => w.1 ≠ i) = true) : lastPut i ws b = x.2.1 := by
  have h1 : lastPut i ws b = lastPut i (ws.drop (k + 1)) (lastPut i (ws.take (k + 1)) b) := by
    unfold lastPut
    rw [← List.foldl_append, List.take_append_drop]
  rw [h1, lastPut_none h, lastPut_snoc hx, if_pos he]
theorem drop_all_cons {i : Int} {ws : List PutT} {k : Nat} {x : PutT} (hx : ws[k]? = some x) (hn : x.1 ≠ i) (h : (ws.drop (k + 1)).all (fun w => w.1 ≠ i) = true) : (ws.drop k).all (fun w => w.1 ≠ i) = true := by
  obtain ⟨hk, rfl⟩ := List.getElem?_eq_some_iff.1 hx
  rw [List.drop_eq_getElem_cons hk, List.all_cons, h]
  simpa using hn

/-- what is read: the number, the sector -/
def readF (l : List (List UInt8)) (ws : List PutT) (i : Int) : Int := if diskF l ws ≠ 0 then diskF l ws else if i < 0 ∨ (l.length : Int) ≤ i then 6 else 0
def readS (l : List (List UInt8)) (ws : List PutT) (i : Int) : List UInt8 := if readF l ws i = 0 then lastPut i ws ((l[i.toNat]?).getD zeroL) else zeroL
theorem readF_bad {l : List (List UInt8)} {ws : List PutT} {i : Int} (h : diskF l ws ≠ 0) : readF l ws i = diskF l ws := by unfold readF; rw [if_pos h]
theorem readF_out {l : List (List UInt8)} {ws : List PutT} {i : Int} (h : diskF l ws = 0) (hi : i < 0 ∨ (l.length : Int) ≤ i) : readF l ws i = 6 := by unfold readF; rw [if_neg (by simpa using h), if_pos hi]
theorem readF_ok {l : List (List UInt8)} {ws : List PutT} {i : Int} (h : diskF l ws = 0) (hi : ¬ (i < 0 ∨ (l.length : Int) ≤ i)) : readF l ws i = 0 := by unfold readF; rw [if_neg (by simpa using h), if_neg hi]

theorem diskF_sizes {l : List (List UInt8)} {ws : List PutT} (h : diskF l ws = 0) : 1 ≤ l.length ∧ l.length ≤ 400 ∧ ws.length ≤ 60 := by
  by_cases hs : l.length < 1 ∨ 400 < l.length ∨ 60 < ws.length
  · rw [diskF_size hs] at h; cases h
  · omega

set_option maxRecDepth 100000 in
set_option maxHeartbeats 800000 in
theorem sectorFault_any (W : World) (A A' : Option Addr) (n c n' c' : Nat) (l : List (List UInt8)) (ws : List PutT) (i : Int) (h : SlR cSector W (lt W.heap.size) A n l) (h' : SlR cPut W (lt W.heap.size) A' n' ws) :
    Calls Try.prog 52 #[.agg #[.slice A n c, .slice A' n' c'], .int .i64 i] W fun e w' => e = .returned (.int .i64 (readF l ws i)) ∧ Below W.heap.size W w' := by
  have C1 := Lib.hid (fun w (hb : Below W.heap.size W w) => DiskFault_any w A A' n c n' c' l ws ((h.below hb).up hb.size) ((h'.below hb).up hb.size))
  have hb0 : Below W.heap.size W (W.alloc (.cells #[.slice A n c, .slice A' n' c'] 54)) := (Below.refl _ _).alloc (Nat.le_refl _) _
  have HL := Lib.hid h.1
  clear h h'
  have k0 : (W.alloc (.cells #[.slice A n c, .slice A' n' c'] 54)).cell? ⟨W.heap.size, 0, none⟩ = some (.slice A n c) := by rw [cell_of_row _ _ _ _ _ _ (heap_alloc_new W _)]; rfl
  by_cases hf : diskF l ws = 0
  · rw [hf] at C1
    by_cases hi : i < 0 ∨ (n : Int) ≤ i
    · have HF := Lib.hid (readF_out hf (by rw [HL.out]; exact hi))
      clear hf
      by_cases hi0 : i < 0
      · go_enter Try.func52, Try.ntmps52
        go_wp2_with fail
        refine (C1.out _ hb0).mono ?_
        rintro e w1 ⟨rfl, hb1⟩
        have hbW1 := hb0.trans (hb1.mono hb0.size)
        have k0 := cell_keep k0 hb1
        clear hi hb1 hb0
        go_wp2_with fail
        go_ret
        exact ⟨by rw [HF.out]; rfl, hbW1⟩
      · have hi1 : (n : Int) ≤ i := by omega
        go_enter Try.func52, Try.ntmps52
        go_wp2_with fail
        refine (C1.out _ hb0).mono ?_
        rintro e w1 ⟨rfl, hb1⟩
        have hbW1 := hb0.trans (hb1.mono hb0.size)
        have k0 := cell_keep k0 hb1
        clear hi hb1 hb0
        go_wp2_with fail
        go_ret
        exact ⟨by rw [HF.out]; rfl, hbW1⟩
    · have HF := Lib.hid (readF_ok hf (by rw [HL.out]; exact hi))
      have hi0 : ¬ i < 0 := by omega
      have hi1 : ¬ (n : Int) ≤ i := by omega
      clear hf hi
      go_enter Try.func52, Try.ntmps52
      go_wp2_with fail
      refine (C1.out _ hb0).mono ?_
      rintro e w1 ⟨rfl, hb1⟩
      have hbW1 := hb0.trans (hb1.mono hb0.size)
      have k0 := cell_keep k0 hb1
      clear hb1 hb0
      go_wp2_with fail
      go_ret
      exact ⟨by rw [HF.out]; rfl, hbW1⟩
  · have HF := Lib.hid (readF_bad (i := i) hf)
    generalize diskF l ws = f at C1 HF hf
    have hf0 : (f == 0) = false := by simpa using hf
    go_enter Try.func52, Try.ntmps52
    go_wp2_with fail
    refine (C1.out _ hb0).mono ?_
    rintro e w1 ⟨rfl, hb1⟩
    have hbW1 := hb0.trans (hb1.mono hb0.size)
    clear hb1 hb0
    go_wp2_with fail
    go_ret
    exact ⟨by rw [HF.out]; rfl, hbW1⟩
theorem row_at {w : World} {g : Nat} {cs : List Value} {t : TypeId} {fr : Nat × Nat} (h : w.heap[g]? = some (.cells cs.toArray t fr)) : w.rangeAt g 0 cs := fun j v hv => by
  rw [Nat.zero_add, cell_of_row _ _ _ _ _ _ h]
  simpa using hv
theorem row_tail {w : World} {g : Nat} {v : Value} {cs : List Value} {t : TypeId} {fr : Nat × Nat} (h : w.heap[g]? = some (.cells (v :: cs).toArray t fr)) : w.rangeAt g 1 cs := fun j u hu => by
  rw [cell_of_row _ _ _ _ _ _ h, Nat.add_comm 1 j]
  simpa using hu

theorem row_fst (W : World) (a b : Obj) : ((W.alloc a).alloc b).heap[W.heap.size]? = some a := by
  have h1 := Below.heap_alloc (W.alloc a) b W.heap.size (by simp)
  rw [h1]
  exact heap_alloc_last W a
theorem row_snd (W : World) (a b : Obj) : ((W.alloc a).alloc b).heap[W.heap.size + 1]? = some b := by
  have h1 := heap_alloc_last (W.alloc a) b
  simpa using h1

/-- what is read, with its number -/
def Told (l : List (List UInt8)) (ws : List PutT) (i : Int) (W : World) (e : Ending) (w' : World) : Prop :=
  e = .returned (.tuple #[.agg (encS (readS l ws i)).toArray, .int .i64 (readF l ws i)]) ∧ Below W.heap.size W w'
theorem Told.bad {l : List (List UInt8)} {ws : List PutT} {i : Int} {f : Int} {W w' : World} {e : Ending} (h : readF l ws i = f) (hf : f ≠ 0) (hb : Below W.heap.size W w') (he : e = .returned (.tuple #[.agg (encS zeroL).toArray, .int .i64 f])) : Told l ws i W e w' := by
  unfold Told readS
  rw [h, if_neg hf]
  exact ⟨he, hb⟩
theorem Told.good {l : List (List UInt8)} {ws : List PutT} {i : Int} {b r : List UInt8} {W w' : World} {e : Ending} (h : readF l ws i = 0) (hl : l[i.toNat]? = some b) (hr : lastPut i ws b = r) (hb : Below W.heap.size W w') (he : e = .returned (.tuple #[.agg (encS r).toArray, .int .i64 0])) : Told l ws i W e w' := by
  unfold Told readS
  rw [h, if_pos rfl, hl, Option.getD_some, hr]
  exact ⟨he, hb⟩

set_option maxRecDepth 100000 in
set_option maxHeartbeats 1600000 in
theorem Read_any (W : World) (A A' : Option Addr) (n c n' c' : Nat) (l : List (List UInt8)) (ws : List PutT) (i : Int) (h : SlR cSector W (lt W.heap.size) A n l) (h' : SlR cPut W (lt W.heap.size) A' n' ws) :
    Calls Try.prog 38 #[.agg #[.slice A n c, .slice A' n' c'], .int .i64 i] W (Told l ws i W) := by
  have C1 := Lib.hid (fun w (hb : Below W.heap.size W w) => Check_any w A A' n c n' c' l ws ((h.below hb).up hb.size) ((h'.below hb).up hb.size))
  have hb0 : ∀ zs, Below W.heap.size W ((W.alloc (.cells #[.slice A n c, .slice A' n' c'] 54)).alloc (.cells zs 76)) := fun zs => ((Below.refl _ _).alloc (Nat.le_refl _) _).alloc (by simp) _
  have HL := Lib.hid h.1
  have H := Lib.hid h
  have H' := Lib.hid h'
  clear h h'
  by_cases hf : diskF l ws = 0
  · rw [hf] at C1
    by_cases hi : i < 0 ∨ (n : Int) ≤ i
    · have HF := Lib.hid (readF_out hf (by rw [HL.out]; exact hi))
      clear hf
      by_cases hi0 : i < 0
      · clear hi
        go_enter Try.func38, Try.ntmps38
        go_wp2_with fail
        refine (C1.out _ (hb0 _)).mono ?_
        rintro e w1 ⟨rfl, hb1⟩
        have r0 := (hb1.block _ (by simp; omega)).trans (row_fst W _ _)
        have R1 := Lib.hid (show w1.heap[W.heap.size + 1]? = some (.cells (encS zeroL).toArray 76 (0, 0)) from (hb1.block _ (by simp)).trans (row_snd W _ _))
        have k0 : w1.cell? ⟨W.heap.size, 0, none⟩ = some (.slice A n c) := by rw [cell_of_row _ _ _ _ _ _ r0]; rfl
        have hbW1 := (hb0 _).trans (hb1.mono (hb0 _).size)
        clear hb1 hb0 r0
        go_wp2_with (first | ((with_reducible refine wpList_store_row (o := ⟨none, _, _, _, _, _⟩) rfl 76 (.tmp 4) (.tmp 25) rfl (W.heap.size + 1) (encS zeroL).toArray ?_ ?_ 76 _ R1.out ?_ ?_ (encS_one _) ?_); rfl; rfl; exact sizeSector; rfl))
        have hbf : Below W.heap.size W (w1.setRow (W.heap.size + 1) (encS zeroL).toArray) := below_setRow hbW1 (by omega) _
        have HRF := Lib.hid (row_at (setRow_heap w1 (W.heap.size + 1) _ (encS zeroL).toArray _ _ R1.out))
        exact bodyPost_ret (run_results_row2 rfl (W.heap.size + 1) rfl (encS zeroL) _ HRF.out Try.underlying76 rfl sizeSector (.int .i64 6) rfl) rfl (Told.bad HF.out (by decide) hbf rfl)
      · have hi1 : (n : Int) ≤ i := by omega
        clear hi
        go_enter Try.func38, Try.ntmps38
        go_wp2_with fail
        refine (C1.out _ (hb0 _)).mono ?_
        rintro e w1 ⟨rfl, hb1⟩
        have r0 := (hb1.block _ (by simp; omega)).trans (row_fst W _ _)
        have R1 := Lib.hid (show w1.heap[W.heap.size + 1]? = some (.cells (encS zeroL).toArray 76 (0, 0)) from (hb1.block _ (by simp)).trans (row_snd W _ _))
        have k0 : w1.cell? ⟨W.heap.size, 0, none⟩ = some (.slice A n c) := by rw [cell_of_row _ _ _ _ _ _ r0]; rfl
        have hbW1 := (hb0 _).trans (hb1.mono (hb0 _).size)
        clear hb1 hb0 r0
        go_wp2_with (first | ((with_reducible refine wpList_store_row (o := ⟨none, _, _, _, _, _⟩) rfl 76 (.tmp 4) (.tmp 25) rfl (W.heap.size + 1) (encS zeroL).toArray ?_ ?_ 76 _ R1.out ?_ ?_ (encS_one _) ?_); rfl; rfl; exact sizeSector; rfl))
        have hbf : Below W.heap.size W (w1.setRow (W.heap.size + 1) (encS zeroL).toArray) := below_setRow hbW1 (by omega) _
        have HRF := Lib.hid (row_at (setRow_heap w1 (W.heap.size + 1) _ (encS zeroL).toArray _ _ R1.out))
        exact bodyPost_ret (run_results_row2 rfl (W.heap.size + 1) rfl (encS zeroL) _ HRF.out Try.underlying76 rfl sizeSector (.int .i64 6) rfl) rfl (Told.bad HF.out (by decide) hbf rfl)
    · have HF := Lib.hid (readF_ok hf (by rw [HL.out]; exact hi))
      obtain ⟨m, rfl⟩ := Int.eq_ofNat_of_zero_le (show 0 ≤ i by omega)
      have hm : m < n := by omega
      have hi1 : ¬ (n : Int) ≤ (m : Int) := by omega
      obtain ⟨b, o, rfl, hb, x, cs, hx, hat, hcl, hr⟩ := H.out.elemAt hm
      obtain ⟨rfl, hx32⟩ := sector_cells hr
      have HX := Lib.hid (show l[(m : Int).toNat]? = some x from hx)
      have HC := Lib.hid (show (Try.prog.info? 76).map (·.size) = some (encS x).length from by rw [hcl]; exact sizeSector)
      have hn60 : n' ≤ 60 := by have := diskF_sizes hf; have := H'.out.1; omega
      clear hf hi hx hcl hr
      go_enter Try.func38, Try.ntmps38
      go_wp2_with fail
      refine (C1.out _ (hb0 _)).mono ?_
      rintro e w1 ⟨rfl, hb1⟩
      have r0 := (hb1.block _ (by simp; omega)).trans (row_fst W _ _)
      have r1 : w1.heap[W.heap.size + 1]? = some (.cells (encS zeroL).toArray 76 (0, 0)) := (hb1.block _ (by simp)).trans (row_snd W _ _)
      have k0 : w1.cell? ⟨W.heap.size, 0, none⟩ = some (.slice (some ⟨b, o, none⟩) n c) := by rw [cell_of_row _ _ _ _ _ _ r0]; rfl
      have k1 : w1.cell? ⟨W.heap.size, 1, none⟩ = some (.slice A' n' c') := by rw [cell_of_row _ _ _ _ _ _ r0]; rfl
      have hW1 : W.heap.size + 2 ≤ w1.heap.size := by have := hb1.size; simpa using this
      have hbW1 := (hb0 _).trans (hb1.mono (hb0 _).size)
      have HAT := Lib.hid (show w1.rangeAt b (o + m * 32) (encS x) from rangeAt_below hat hbW1 hb)
      clear hb1 hb0 hat r0
      have HCA := Lib.hid (show (Try.prog.info? 76).map (·.size) = some (encS x).toArray.size from by rw [List.size_toArray]; exact HC.out)
      have HZ := Lib.hid (show 32 = (encS x).toArray.size from by rw [List.size_toArray, encS_length, hx32])
      have HO := Lib.hid (show ∀ v ∈ (encS x).toArray, v.oneCell' = true from Array.all_eq_true_iff_forall_mem.1 (encS_one x))
      have hwa : (w1.alloc (.cells (encS x).toArray 76)).heap[w1.heap.size]? = some (.cells (encS x).toArray 76 (0, 0)) := heap_alloc_last w1 _
      have hba : Below w1.heap.size w1 (w1.alloc (.cells (encS x).toArray 76)) := (Below.refl _ _).alloc (Nat.le_refl _) _
      have hsa : (w1.alloc (.cells (encS x).toArray 76)).heap.size = w1.heap.size + 1 := by simp
      have k1' : (w1.alloc (.cells (encS x).toArray 76)).cell? ⟨W.heap.size, 1, none⟩ = some (.slice A' n' c') := cell_keep k1 hba
      go_wp2_with (first | ((with_reducible refine wpList_load_mid (op := ⟨some 30, _, _, _, _, _⟩) rfl 76 (.tmp 29) rfl b (o + m * 32) ?_ (encS x) _ HAT.out Try.underlying76 rfl HC.out ?_); rfl) | ((with_reducible refine wpList_store_new (o := ⟨none, _, _, _, _, _⟩) ?_ 76 (.tmp 7) (.tmp 30) ?_ _ (encS x).toArray ?_ ?_ ?_ ?_ ?_ ?_); rfl; rfl; rfl; rfl; exact HCA.out; exact HZ.out; exact HO.out))
      clear k0 k1 k1'
      generalize w1.alloc (.cells (encS x).toArray 76) = w2 at hwa hba hsa ⊢
      go_loopw [34] (fun i wr => ∃ k : Nat, k ≤ n' ∧ i = .int .i64 k ∧ Below w1.heap.size w1 wr ∧ w1.heap.size + 1 ≤ wr.heap.size ∧ (lastPut m (ws.take k) x).length = 32 ∧ wr.heap[w1.heap.size]? = some (.cells (encS (lastPut m (ws.take k) x)).toArray 76 (0, 0))) (fun i _ => n' - (intOf i).toNat)
      case atStart => exact ⟨0, Nat.zero_le _, rfl, hba, by omega, hx32, hwa⟩
      case round =>
        obtain ⟨k, hk, rfl, hbel, hsz, hy32, hrow⟩ := hrel
        by_cases hlt : k < n'
        · obtain ⟨b', o', rfl, hb', p, cs', hx', hat', hcl', hr'⟩ := H'.out.elemAt hlt
          obtain ⟨sc, rfl, hsec, _⟩ := put_head hr'
          obtain ⟨rfl, hp32⟩ := sector_cells hsec
          have HP := Lib.hid (lastPut_snoc (i := (m : Int)) (b := x) hx')
          have HO2 := Lib.hid (one_put _ _ _ _ hr')
          have HAT2 := Lib.hid (show wr.rangeAt b' (o' + k * 33) (.int .i64 p.1 :: encS p.2.1) from rangeAt_below hat' (hbW1.trans (hbel.mono hbW1.size)) hb')
          have HC2 := Lib.hid (show (Try.prog.info? 91).map (·.size) = some (Value.int .i64 p.1 :: encS p.2.1).length from by rw [hcl']; exact sizePut)
          have HZ2 := Lib.hid (show 33 = (Value.int .i64 p.1 :: encS p.2.1).toArray.size from by rw [List.size_toArray, hcl']; rfl)
          have HY := Lib.hid hy32
          have HROW := Lib.hid hrow
          have HD := Lib.hid (show (Try.prog.info? 76).map (·.size) = some (encS p.2.1).toArray.size from by rw [List.size_toArray, encS_length, hp32]; exact sizeSector)
          have HDL := Lib.hid (show (Try.prog.info? 76).map (·.size) = some (encS p.2.1).length from by rw [encS_length, hp32]; exact sizeSector)
          have HZ3 := Lib.hid (show (encS (lastPut (m : Int) (ws.take k) x)).toArray.size = (encS p.2.1).toArray.size from by rw [List.size_toArray, List.size_toArray, encS_length, encS_length, hp32, hy32])
          have hrow2 := heap_alloc_new wr (.cells (Value.int .i64 p.1 :: encS p.2.1).toArray 91)
          have hc0 : (wr.alloc (.cells (Value.int .i64 p.1 :: encS p.2.1).toArray 91)).cell? ⟨wr.heap.size, 0, none⟩ = some (.int .i64 p.1) := by rw [cell_of_row _ _ _ _ _ _ hrow2]; rfl
          have HT := Lib.hid (show (wr.alloc (.cells (Value.int .i64 p.1 :: encS p.2.1).toArray 91)).rangeAt wr.heap.size 1 (encS p.2.1) from row_tail hrow2)
          have HRA := Lib.hid (show (wr.alloc (.cells (Value.int .i64 p.1 :: encS p.2.1).toArray 91)).heap[w1.heap.size]? = some (.cells (encS (lastPut (m : Int) (ws.take k) x)).toArray 76 (0, 0)) from (Below.heap_alloc wr _ _ (by omega)).trans hrow)
          have hbA : Below w1.heap.size w1 (wr.alloc (.cells (Value.int .i64 p.1 :: encS p.2.1).toArray 91)) := hbel.alloc hbel.size _
          have hsA : w1.heap.size + 1 ≤ (wr.alloc (.cells (Value.int .i64 p.1 :: encS p.2.1).toArray 91)).heap.size := by simp; omega
          clear hat' hr' hx' hcl' hsec hrow2 hy32 hrow
          generalize hv : p.1 = v at *
          by_cases he : v = (m : Int)
          · subst he
            rw [if_pos rfl] at HP
            go_wp2_with (first | ((with_reducible refine wpList_load_mid (op := ⟨some 37, _, _, _, _, _⟩) rfl 91 (.tmp 36) rfl b' (o' + k * 33) ?_ (.int .i64 (m : Int) :: encS p.2.1) _ HAT2.out Try.underlying91 rfl HC2.out ?_); rfl) | ((with_reducible refine wpList_store_new (o := ⟨none, _, _, _, _, _⟩) rfl 91 (.tmp 9) (.tmp 37) rfl _ (.int .i64 (m : Int) :: encS p.2.1).toArray ?_ ?_ ?_ HZ2.out ?_ ?_); rfl; rfl; (simpa using HC2.out); (simpa using HO2.out)) | ((with_reducible refine wpList_load_mid (op := ⟨some 43, _, _, _, _, _⟩) rfl 76 (.tmp 42) rfl wr.heap.size 1 ?_ (encS p.2.1) _ HT.out Try.underlying76 rfl HDL.out ?_); rfl) | ((with_reducible refine wpList_store_row (o := ⟨none, _, _, _, _, _⟩) rfl 76 (.tmp 7) (.tmp 43) rfl w1.heap.size (encS p.2.1).toArray ?_ ?_ 76 _ HRA.out HD.out HZ3.out (encS_one _) ?_); rfl; rfl))
            go_roundw
            case rel => exact ⟨k + 1, by omega, by go_num, below_setRow hbA (Nat.le_refl _) _, by simpa using hsA, by rw [HP.out]; exact hp32, by rw [HP.out]; exact setRow_heap _ _ _ _ _ _ HRA.out⟩
            case measure => simp [intOf]; omega
          · rw [if_neg he] at HP
            have he0 : (v == (m : Int)) = false := by simpa using he
            go_wp2_with (first | ((with_reducible refine wpList_load_mid (op := ⟨some 37, _, _, _, _, _⟩) rfl 91 (.tmp 36) rfl b' (o' + k * 33) ?_ (.int .i64 v :: encS p.2.1) _ HAT2.out Try.underlying91 rfl HC2.out ?_); rfl) | ((with_reducible refine wpList_store_new (o := ⟨none, _, _, _, _, _⟩) rfl 91 (.tmp 9) (.tmp 37) rfl _ (.int .i64 v :: encS p.2.1).toArray ?_ ?_ ?_ HZ2.out ?_ ?_); rfl; rfl; (simpa using HC2.out); (simpa using HO2.out)))
            go_roundw
            case rel => exact ⟨k + 1, by omega, by go_num, hbA, hsA, by rw [HP.out]; exact HY.out, by rw [HP.out]; exact HRA.out⟩
            case measure => simp [intOf]; omega
        · obtain rfl : k = n' := by omega
          have he : ws.take k = ws := List.take_of_length_le (by have := H'.out.1; omega)
          rw [he] at hrow hy32
          have HR := Lib.hid (row_at hrow)
          have HCL := Lib.hid (show (Try.prog.info? 76).map (·.size) = some (encS (lastPut (m : Int) ws x)).length from by rw [encS_length, hy32]; exact sizeSector)
          have HCA2 := Lib.hid (show (Try.prog.info? 76).map (·.size) = some (encS (lastPut (m : Int) ws x)).toArray.size from by rw [List.size_toArray, encS_length, hy32]; exact sizeSector)
          have R1 := Lib.hid ((hbel.block (W.heap.size + 1) (by omega)).trans r1)
          have HZ4 := Lib.hid (show (encS zeroL).toArray.size = (encS (lastPut (m : Int) ws x)).toArray.size from by rw [List.size_toArray, List.size_toArray, encS_length, encS_length, hy32]; rfl)
          clear hrow he
          go_wp2_with (first | ((with_reducible refine wpList_load_mid (op := ⟨some 45, _, _, _, _, _⟩) rfl 76 (.tmp 7) rfl w1.heap.size 0 ?_ (encS (lastPut (m : Int) ws x)) _ HR.out Try.underlying76 rfl HCL.out ?_); rfl) | ((with_reducible refine wpList_store_row (o := ⟨none, _, _, _, _, _⟩) rfl 76 (.tmp 4) (.tmp 45) rfl (W.heap.size + 1) (encS (lastPut (m : Int) ws x)).toArray ?_ ?_ 76 _ R1.out HCA2.out HZ4.out (encS_one _) ?_); rfl; rfl))
          have hbf : Below W.heap.size W (wr.setRow (W.heap.size + 1) (encS (lastPut (m : Int) ws x)).toArray) := below_setRow (hbW1.trans (hbel.mono hbW1.size)) (by omega) _
          have HRF := Lib.hid (row_at (setRow_heap wr (W.heap.size + 1) _ (encS (lastPut (m : Int) ws x)).toArray _ _ R1.out))
          exact bodyPost_ret (run_results_row2 rfl (W.heap.size + 1) rfl (encS (lastPut (m : Int) ws x)) _ HRF.out Try.underlying76 rfl HCL.out (.int .i64 0) rfl) rfl (Told.good HF.out HX.out rfl hbf rfl)
  · have HF := Lib.hid (readF_bad (i := i) hf)
    generalize diskF l ws = f at C1 HF hf
    have hf0 : (f == 0) = false := by simpa using hf
    have HN := Lib.hid hf
    clear hf
    go_enter Try.func38, Try.ntmps38
    go_wp2_with fail
    refine (C1.out _ (hb0 _)).mono ?_
    rintro e w1 ⟨rfl, hb1⟩
    have r0 := (hb1.block _ (by simp; omega)).trans (row_fst W _ _)
    have R1 := Lib.hid (show w1.heap[W.heap.size + 1]? = some (.cells (encS zeroL).toArray 76 (0, 0)) from (hb1.block _ (by simp)).trans (row_snd W _ _))
    have k0 : w1.cell? ⟨W.heap.size, 0, none⟩ = some (.slice A n c) := by rw [cell_of_row _ _ _ _ _ _ r0]; rfl
    have hbW1 := (hb0 _).trans (hb1.mono (hb0 _).size)
    clear hb1 hb0 r0
    go_wp2_with (first | ((with_reducible refine wpList_store_row (o := ⟨none, _, _, _, _, _⟩) rfl 76 (.tmp 4) (.tmp 14) rfl (W.heap.size + 1) (encS zeroL).toArray ?_ ?_ 76 _ R1.out ?_ ?_ (encS_one _) ?_); rfl; rfl; exact sizeSector; rfl))
    have hbf : Below W.heap.size W (w1.setRow (W.heap.size + 1) (encS zeroL).toArray) := below_setRow hbW1 (by omega) _
    have HRF := Lib.hid (row_at (setRow_heap w1 (W.heap.size + 1) _ (encS zeroL).toArray _ _ R1.out))
    exact bodyPost_ret (run_results_row2 rfl (W.heap.size + 1) rfl (encS zeroL) _ HRF.out Try.underlying76 rfl sizeSector (.int .i64 f) rfl) rfl (Told.bad HF.out HN.out hbf rfl)
end Go.Proofs.Ytbpibblidokhfaa
