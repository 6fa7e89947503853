/- The walk of the reference's Fallen. No condition. -/
import Derived.Test.YtbpibblidokhfaaFallW
import Derived.Test.YtbpibblidokhfaaBuildW
namespace Go.Proofs.Ytbpibblidokhfaa
open Go.ChangeShapes Go.WideShapes Go.ChangeAt Go.RowKit Go.Deep

theorem fell_test (al : Bool) (x : Int) (j : Nat) (hj : j < 63) : (al || (decide ((j : Int) < 63) && (Go.bits .and .i64 x (2 ^ j) != 0))) = (al || bitAt x j) := by
  rw [shl_test x j hj, decide_eq_true (by omega), Bool.true_and]

theorem shl_test64 (x : Int) (k : Nat) (hk : k < 63) : (Go.bits .and .i64 x (wrap64 (2 ^ k)) != 0) = bitAt x k := by
  have hp : (2 : Nat) ^ k < 2 ^ 63 := Nat.pow_lt_pow_right (by decide) hk
  have e : ((2 : Int) ^ k) = ((2 ^ k : Nat) : Int) := by simp
  have e2 : wrap64 (2 ^ k) = 2 ^ k := by
    rw [e]
    generalize (2 : Nat) ^ k = q at hp ⊢
    exact IntWalk.wrap64_in _ (by omega)
  rw [e2, shl_test x k hk]
theorem ownC_nil {α : Type} (c : Cd α) (w : World) (base : Nat) (e : TypeId) : OwnC c w base e (.slice none 0 0) [] [] := OwnC.nil c (World.ownsRow_nil _ _ _ _)
theorem OwnC.below {α : Type} {c : Cd α} {w w' : World} {base : Nat} {e : TypeId} {v : Value} {cs : List Value} {xs : List α} (h : OwnC c w base e v cs xs) (hb : Below w.heap.size w w') : OwnC c w' base e v cs xs :=
  ⟨own_below h.1 hb, (h.2.keep fun p hp => hb.cell hp.1).more fun b hp => ⟨Nat.lt_of_lt_of_le hp.1 hb.size, hp.2⟩⟩

theorem OwnC.slNew {α : Type} {c : Cd α} {w w' : World} {base : Nat} {e : TypeId} {B : Option Addr} {m d : Nat} {cs : List Value} {xs : List α} (h : OwnC c w base e (.slice B m d) cs xs) (hd : ∀ (S : Nat → Prop) cs x, c.rel w S cs x → ∀ S' w', c.rel w' S' cs x) (hk : ∀ g, base ≤ g → w'.heap[g]? = w.heap[g]?) (hs : w.heap.size ≤ w'.heap.size) :
    m = xs.length ∧ SlR c w' (fun b => base ≤ b ∧ b < w'.heap.size) B m xs := by
  obtain ⟨hown, hch⟩ := h
  rcases hown.2 with ⟨h1, h2⟩ | ⟨g, cap, cur, h1, hbg, hg, hnc, hcm, hcs, htake⟩
  · injection h1 with e1 e2 e3
    subst e1 e2 e3
    have hx : xs = [] := List.eq_nil_of_length_eq_zero h2
    subst hx
    exact ⟨rfl, SlR.nil _ _ _ _⟩
  · injection h1 with e1 e2 e3
    subst e1 e2 e3
    refine ⟨rfl, rfl, fun hn => ⟨g, 0, rfl, ⟨hbg, Nat.lt_of_lt_of_le (Array.getElem?_eq_some_iff.1 hg).1 hs⟩, fun i x hi => ⟨_, fun j u hu => ?_, hd _ _ _ (hch.2 i x hi) _ _⟩⟩⟩
    rw [List.getElem?_take] at hu
    split at hu
    · rw [List.getElem?_drop] at hu
      have := hown.cells (g := g) rfl _ u hu
      rw [Addr.add_lit] at this
      rw [World.cell?_of_block (w := w) (hk g hbg)]
      simpa using this
    · cases hu
theorem OwnC.setRow_other {w : World} {base q : Nat} {e : TypeId} {v : Value} {cs : List Value} {xs : List (List UInt8)} (h : OwnC cSector w base e v cs xs) (hq : q < base) (arr : Array Value) : OwnC cSector (w.setRow q arr) base e v cs xs := by
  refine ⟨⟨h.1.1, ?_⟩, chunks_any h.2⟩
  rcases h.1.2 with h1 | ⟨g, cap, cur, h1, hbg, hg, h2⟩
  · exact .inl h1
  · exact .inr ⟨g, cap, cur, h1, hbg, by rw [Go.setRow_other w q g arr (by omega)]; exact hg, h2⟩
theorem free_of_row {w : World} {g i : Nat} {cs : Array Value} {t : TypeId} (h : w.heap[g]? = some (.cells cs t (0, 0))) : w.frozen? ⟨g, i, none⟩ = false := by simp [World.frozen?, h]
theorem sector_free : ∀ (w : World) (S : Nat → Prop) cs x, cSector.rel w S cs x → ∀ S' w', cSector.rel w' S' cs x := fun w S cs x h S' w' => by
  obtain ⟨rfl, h2⟩ := sector_cells h
  exact sector_enc _ _ h2
theorem Fell.slice {f : Nat → Bool} {l : List (List UInt8)} {ws : List PutT} {W w w' : World} {e : Ending} {base : Nat} {t : TypeId} {B : Option Addr} {m d : Nat} {cs : List Value} (h : diskF l ws = 0) (hb : Below W.heap.size W w') (hbase : W.heap.size ≤ base) (hown : OwnC cSector w base t (.slice B m d) cs (setAt f ws l))
    (hk : ∀ g, base ≤ g → w'.heap[g]? = w.heap[g]?) (hs : w.heap.size ≤ w'.heap.size) (he : e = .returned (.tuple #[.agg #[.slice B m d, .slice none 0 0], .int .i64 0])) : Fell f l ws W e w' := by
  obtain ⟨h1, h2⟩ := hown.slNew (sector_free w) hk hs
  unfold Fell
  rw [h, if_pos rfl]
  subst h1
  exact ⟨hb, B, d, he, h2.more fun b hb => ⟨by have := hb.1; omega, hb.2⟩⟩

set_option maxRecDepth 100000 in
set_option maxHeartbeats 3200000 in
theorem Fallen_any (W : World) (x : Int) (al : Bool) (A A' : Option Addr) (n c n' c' : Nat) (l : List (List UInt8)) (ws : List PutT) (h : SlR cSector W (lt W.heap.size) A n l) (h' : SlR cPut W (lt W.heap.size) A' n' ws) :
    Calls Try.prog 44 #[.agg #[.slice A n c, .slice A' n' c'], .int .i64 x, .bool al] W (Fell (fun j => al || bitAt x j) l ws W) := by
  have C1 := Lib.hid (fun w (hb : Below W.heap.size W w) => DiskFault_any w A A' n c n' c' l ws ((h.below hb).up hb.size) ((h'.below hb).up hb.size))
  have hb0 : Below W.heap.size W ((W.alloc (.cells #[.slice A n c, .slice A' n' c'] 54)).alloc (.cells #[.slice none 0 0, .slice none 0 0] 54)) := ((Below.refl _ _).alloc (Nat.le_refl _) _).alloc (by simp) _
  have HL := Lib.hid h.1
  have H := Lib.hid h
  have H' := Lib.hid h'
  clear h h'
  by_cases hf : diskF l ws = 0
  · rw [hf] at C1
    have HF := Lib.hid hf
    have HALL := Lib.hid (setAt_get (f := fun j => al || bitAt x j) (diskF_all hf))
    have hsz := diskF_sizes hf
    have hn0 : 0 < n := by have := HL.out; omega
    have hn400 : n ≤ 400 := by have := HL.out; omega
    have hn60 : n' ≤ 60 := by have := H'.out.1; omega
    clear hf hsz
    obtain ⟨i0, hi, hz0, hz1, hz2⟩ := info_parts infoSector
    go_enter Try.func44, Try.ntmps44
    go_wp2_with fail
    refine (C1.out _ hb0).mono ?_
    rintro e w1 ⟨rfl, hb1⟩
    have r0 := (hb1.block _ (by simp; omega)).trans (row_fst W _ _)
    have R1 := Lib.hid ((hb1.block _ (by simp)).trans (row_snd W _ _))
    have k0 : w1.cell? ⟨W.heap.size, 0, none⟩ = some (.slice A n c) := by rw [cell_of_row _ _ _ _ _ _ r0]; rfl
    have k1 : w1.cell? ⟨W.heap.size, 1, none⟩ = some (.slice A' n' c') := by rw [cell_of_row _ _ _ _ _ _ r0]; rfl
    have hW1 : W.heap.size + 2 ≤ w1.heap.size := by have := hb1.size; simpa using this
    have hbW1 := hb0.trans (hb1.mono hb0.size)
    clear hb1 hb0 r0
    have hba := (Below.refl w1.heap.size w1).alloc (Nat.le_refl _) (.cells #[.slice none 0 0, .slice none 0 0] 54)
    have kk0 := cell_keep k0 hba
    go_wp2_with fail
    have hq := heap_alloc_last w1 (.cells #[.slice none 0 0, .slice none 0 0] 54)
    have hs2 : (w1.alloc (.cells #[.slice none 0 0, .slice none 0 0] 54)).heap.size = w1.heap.size + 1 := by simp
    clear kk0
    generalize w1.alloc (.cells #[.slice none 0 0, .slice none 0 0] 54) = w2 at *
    go_loopw [24] (fun i wr => ∃ k : Nat, k ≤ n ∧ i = .int .i64 k ∧ Below w1.heap.size w1 wr ∧ w1.heap.size + 1 ≤ wr.heap.size ∧ ∃ B m d cs, wr.heap[w1.heap.size]? = some (.cells #[.slice B m d, .slice none 0 0] 54 (0, 0)) ∧ OwnC cSector wr (w1.heap.size + 1) 76 (.slice B m d) cs ((setAt (fun j => al || bitAt x j) ws l).take k)) (fun i _ => n - (intOf i).toNat)
    case atStart => exact ⟨0, Nat.zero_le _, rfl, hba, by omega, none, 0, 0, [], hq, ownC_nil _ _ _ _⟩
    case round =>
      clear hba hq hs2 w2
      obtain ⟨k, hk, rfl, hbel, hsz, B, m, d, cs, hq, hown⟩ := hrel
      by_cases hlt : k < n
      · obtain ⟨b, o, rfl, hb, s, ss, hx, hat, hcl, hr⟩ := H.out.elemAt hlt
        obtain ⟨rfl, hs32⟩ := sector_cells hr
        have HX := Lib.hid hx
        have hat1 : wr.rangeAt b (o + k * 32) (encS s) := rangeAt_below hat (hbW1.trans (hbel.mono hbW1.size)) hb
        have HAT := Lib.hid hat1
        have HC := Lib.hid (show (Try.prog.info? 76).map (·.size) = some (encS s).length from by rw [hcl]; exact sizeSector)
        have HCA := Lib.hid (show (Try.prog.info? 76).map (·.size) = some (encS s).toArray.size from by rw [List.size_toArray]; exact HC.out)
        have HZ := Lib.hid (show 32 = (encS s).toArray.size from by rw [List.size_toArray, encS_length, hs32])
        have HO := Lib.hid (show ∀ v ∈ (encS s).toArray, v.oneCell' = true from Array.all_eq_true_iff_forall_mem.1 (encS_one s))
        have hba := (Below.refl wr.heap.size wr).alloc (Nat.le_refl _) (.cells (encS s).toArray 76)
        have kk0 := cell_up k1 (hbel.trans (hba.mono hbel.size)) (by omega)
        have hrow := heap_alloc_last wr (.cells (encS s).toArray 76)
        have hs3 : (wr.alloc (.cells (encS s).toArray 76)).heap.size = wr.heap.size + 1 := by simp
        have HOWN := Lib.hid hown
        have HQ := Lib.hid hq
        clear hx hat hcl hr hat1 hown hq
        go_wp2_with (first | ((with_reducible refine wpList_load_mid (op := ⟨some 28, _, _, _, _, _⟩) rfl 76 (.tmp 27) rfl b (o + k * 32) ?_ (encS s) _ HAT.out Try.underlying76 rfl HC.out ?_); rfl) | ((with_reducible refine wpList_store_new (o := ⟨none, _, _, _, _, _⟩) rfl 76 (.tmp 11) (.tmp 28) rfl _ (encS s).toArray ?_ ?_ ?_ ?_ ?_ ?_); rfl; rfl; exact HCA.out; exact HZ.out; exact HO.out))
        clear kk0
        generalize wr.alloc (.cells (encS s).toArray 76) = w3 at *
        obtain ⟨wo, hwo⟩ : ∃ wo, wo = wr := ⟨_, rfl⟩
        subst hwo
        go_loopw [32] (fun i wr => ∃ j : Nat, j ≤ n' ∧ i = .int .i64 j ∧ Below wo.heap.size wo wr ∧ wo.heap.size + 1 ≤ wr.heap.size ∧ (oneAt (fun j => al || bitAt x j) k (ws.take j) s).length = 32 ∧ wr.heap[wo.heap.size]? = some (.cells (encS (oneAt (fun j => al || bitAt x j) k (ws.take j) s)).toArray 76 (0, 0))) (fun i _ => n' - (intOf i).toNat)
        case atStart => exact ⟨0, Nat.zero_le _, rfl, hba, by omega, hs32, hrow⟩
        case round =>
          clear hba hrow hs3 w3
          obtain ⟨j, hj, rfl, hbi, hsi, hy32, hrow⟩ := hrel
          have hbelI := hbel.trans (hbi.mono hbel.size)
          by_cases hlj : j < n'
          · obtain ⟨b', o', rfl, hb', p, cs', hx', hat', hcl', hr'⟩ := H'.out.elemAt hlj
            obtain ⟨sc, rfl, hsec', _⟩ := put_head hr'
            obtain ⟨rfl, hp32⟩ := sector_cells hsec'
            have HP := Lib.hid (oneAt_snoc (f := fun j => al || bitAt x j) (i := k) (b := s) hx')
            have HO2 := Lib.hid (one_put _ _ _ _ hr')
            have HAT2 := Lib.hid (show wr.rangeAt b' (o' + j * 33) (.int .i64 p.1 :: encS p.2.1) from rangeAt_below hat' (hbW1.trans (hbelI.mono hbW1.size)) hb')
            have HC2 := Lib.hid (show (Try.prog.info? 91).map (·.size) = some (Value.int .i64 p.1 :: encS p.2.1).length from by rw [hcl']; exact sizePut)
            have HZ2 := Lib.hid (show 33 = (Value.int .i64 p.1 :: encS p.2.1).toArray.size from by rw [List.size_toArray, hcl']; rfl)
            have HY := Lib.hid hy32
            have HD := Lib.hid (show (Try.prog.info? 76).map (·.size) = some (encS p.2.1).toArray.size from by rw [List.size_toArray, encS_length, hp32]; exact sizeSector)
            have HDL := Lib.hid (show (Try.prog.info? 76).map (·.size) = some (encS p.2.1).length from by rw [encS_length, hp32]; exact sizeSector)
            have HZ3 := Lib.hid (show (encS (oneAt (fun j => al || bitAt x j) k (ws.take j) s)).toArray.size = (encS p.2.1).toArray.size from by rw [List.size_toArray, List.size_toArray, encS_length, encS_length, hp32, hy32])
            have hrow2 := heap_alloc_new wr (.cells (Value.int .i64 p.1 :: encS p.2.1).toArray 91)
            have hc0 : (wr.alloc (.cells (Value.int .i64 p.1 :: encS p.2.1).toArray 91)).cell? ⟨wr.heap.size, 0, none⟩ = some (.int .i64 p.1) := by rw [cell_of_row _ _ _ _ _ _ hrow2]; rfl
            have HT := Lib.hid (show (wr.alloc (.cells (Value.int .i64 p.1 :: encS p.2.1).toArray 91)).rangeAt wr.heap.size 1 (encS p.2.1) from row_tail hrow2)
            have HRA := Lib.hid (show (wr.alloc (.cells (Value.int .i64 p.1 :: encS p.2.1).toArray 91)).heap[wo.heap.size]? = some (.cells (encS (oneAt (fun j => al || bitAt x j) k (ws.take j) s)).toArray 76 (0, 0)) from (Below.heap_alloc wr _ _ (by omega)).trans hrow)
            have hbA : Below wo.heap.size wo (wr.alloc (.cells (Value.int .i64 p.1 :: encS p.2.1).toArray 91)) := hbi.alloc hbi.size _
            have hsA : wo.heap.size + 1 ≤ (wr.alloc (.cells (Value.int .i64 p.1 :: encS p.2.1).toArray 91)).heap.size := by simp; omega
            have hk63 : j < 63 := by omega
            have HTST := shl_test64 x j hk63
            clear hat' hr' hx' hcl' hsec' hrow2 hy32 hrow
            generalize hv : p.1 = v at *
            clear hv
            by_cases he : v = (k : Int)
            · subst he
              have hcc : ((k : Int) == (k : Int)) = true := by simp
              cases al with
              | true =>
                go_wp2_with (first | ((with_reducible refine wpList_load_mid (op := ⟨some 36, _, _, _, _, _⟩) rfl 91 (.tmp 35) rfl b' (o' + j * 33) ?_ (.int .i64 (k : Int) :: encS p.2.1) _ HAT2.out Try.underlying91 rfl HC2.out ?_); rfl) | ((with_reducible refine wpList_store_new (o := ⟨none, _, _, _, _, _⟩) rfl 91 (.tmp 13) (.tmp 36) rfl _ (.int .i64 (k : Int) :: encS p.2.1).toArray ?_ ?_ ?_ HZ2.out ?_ ?_); rfl; rfl; (simpa using HC2.out); (simpa using HO2.out)) | ((with_reducible refine wpList_load_mid (op := ⟨some 56, _, _, _, _, _⟩) rfl 76 (.tmp 55) rfl wr.heap.size 1 ?_ (encS p.2.1) _ HT.out Try.underlying76 rfl HDL.out ?_); rfl) | ((with_reducible refine wpList_store_row (o := ⟨none, _, _, _, _, _⟩) rfl 76 (.tmp 11) (.tmp 56) rfl wo.heap.size (encS p.2.1).toArray ?_ ?_ 76 _ HRA.out HD.out HZ3.out (encS_one _) ?_); rfl; rfl))
                go_roundw
                case rel => exact ⟨j + 1, by omega, by go_num, below_setRow hbA (Nat.le_refl _) _, by simpa using hsA, by rw [HP.out, if_pos ⟨rfl, (by simp)⟩]; exact hp32, by rw [HP.out, if_pos ⟨rfl, (by simp)⟩]; exact setRow_heap _ _ _ _ _ _ HRA.out⟩
                case measure => simp [intOf]; omega
              | false =>
                cases hbit : bitAt x j with
                | true =>
                  rw [hbit] at HTST
                  have HB := Lib.hid hbit
                  clear hbit
                  go_wp2_with (first | ((with_reducible refine wpList_load_mid (op := ⟨some 36, _, _, _, _, _⟩) rfl 91 (.tmp 35) rfl b' (o' + j * 33) ?_ (.int .i64 (k : Int) :: encS p.2.1) _ HAT2.out Try.underlying91 rfl HC2.out ?_); rfl) | ((with_reducible refine wpList_store_new (o := ⟨none, _, _, _, _, _⟩) rfl 91 (.tmp 13) (.tmp 36) rfl _ (.int .i64 (k : Int) :: encS p.2.1).toArray ?_ ?_ ?_ HZ2.out ?_ ?_); rfl; rfl; (simpa using HC2.out); (simpa using HO2.out)) | ((with_reducible refine wpList_load_mid (op := ⟨some 56, _, _, _, _, _⟩) rfl 76 (.tmp 55) rfl wr.heap.size 1 ?_ (encS p.2.1) _ HT.out Try.underlying76 rfl HDL.out ?_); rfl) | ((with_reducible refine wpList_store_row (o := ⟨none, _, _, _, _, _⟩) rfl 76 (.tmp 11) (.tmp 56) rfl wo.heap.size (encS p.2.1).toArray ?_ ?_ 76 _ HRA.out HD.out HZ3.out (encS_one _) ?_); rfl; rfl))
                  go_roundw
                  case rel => exact ⟨j + 1, by omega, by go_num, below_setRow hbA (Nat.le_refl _) _, by simpa using hsA, by rw [HP.out, if_pos ⟨rfl, (by simp [HB.out])⟩]; exact hp32, by rw [HP.out, if_pos ⟨rfl, (by simp [HB.out])⟩]; exact setRow_heap _ _ _ _ _ _ HRA.out⟩
                  case measure => simp [intOf]; omega
                | false =>
                  rw [hbit] at HTST
                  have HB := Lib.hid hbit
                  clear hbit
                  go_wp2_with (first | ((with_reducible refine wpList_load_mid (op := ⟨some 36, _, _, _, _, _⟩) rfl 91 (.tmp 35) rfl b' (o' + j * 33) ?_ (.int .i64 (k : Int) :: encS p.2.1) _ HAT2.out Try.underlying91 rfl HC2.out ?_); rfl) | ((with_reducible refine wpList_store_new (o := ⟨none, _, _, _, _, _⟩) rfl 91 (.tmp 13) (.tmp 36) rfl _ (.int .i64 (k : Int) :: encS p.2.1).toArray ?_ ?_ ?_ HZ2.out ?_ ?_); rfl; rfl; (simpa using HC2.out); (simpa using HO2.out)))
                  go_roundw
                  case rel => exact ⟨j + 1, by omega, by go_num, hbA, hsA, by rw [HP.out, if_neg (by simp [HB.out])]; exact HY.out, by rw [HP.out, if_neg (by simp [HB.out])]; exact HRA.out⟩
                  case measure => simp [intOf]; omega
            · have he0 : (v == (k : Int)) = false := by simpa using he
              go_wp2_with (first | ((with_reducible refine wpList_load_mid (op := ⟨some 36, _, _, _, _, _⟩) rfl 91 (.tmp 35) rfl b' (o' + j * 33) ?_ (.int .i64 (v : Int) :: encS p.2.1) _ HAT2.out Try.underlying91 rfl HC2.out ?_); rfl) | ((with_reducible refine wpList_store_new (o := ⟨none, _, _, _, _, _⟩) rfl 91 (.tmp 13) (.tmp 36) rfl _ (.int .i64 (v : Int) :: encS p.2.1).toArray ?_ ?_ ?_ HZ2.out ?_ ?_); rfl; rfl; (simpa using HC2.out); (simpa using HO2.out)))
              go_roundw
              case rel => exact ⟨j + 1, by omega, by go_num, hbA, hsA, by rw [HP.out, if_neg (fun h => he h.1)]; exact HY.out, by rw [HP.out, if_neg (fun h => he h.1)]; exact HRA.out⟩
              case measure => simp [intOf]; omega
          · obtain rfl : j = n' := by omega
            have he : ws.take j = ws := List.take_of_length_le (by have := H'.out.1; omega)
            rw [he] at hrow hy32
            have hyk : (setAt (fun j => al || bitAt x j) ws l)[k]? = some (oneAt (fun j => al || bitAt x j) k ws s) := by rw [HALL.out k, HX.out]; rfl
            have htk : (setAt (fun j => al || bitAt x j) ws l).take (k + 1) = (setAt (fun j => al || bitAt x j) ws l).take k ++ [oneAt (fun j => al || bitAt x j) k ws s] := by rw [List.take_add_one, hyk]; rfl
            have HTK := Lib.hid htk
            have hkl : ((setAt (fun j => al || bitAt x j) ws l).take k).length = k := by rw [List.length_take, setAt_length, HL.out]; omega
            have HKL := Lib.hid hkl
            clear hyk htk he hkl
            generalize oneAt (fun j => al || bitAt x j) k ws s = y at hrow hy32 HTK
            have HR := Lib.hid (row_at hrow)
            have HY := Lib.hid hy32
            have HYC := Lib.hid (show (Try.prog.info? 76).map (·.size) = some (encS y).length from by rw [encS_length, hy32]; exact sizeSector)
            have hq1 := (hbi.block w1.heap.size (by omega)).trans HQ.out
            have q0 : wr.cell? ⟨w1.heap.size, 0, none⟩ = some (.slice B m d) := by rw [cell_of_row _ _ _ _ _ _ hq1]; rfl
            have HQ1 := Lib.hid hq1
            have hba := (Below.refl wr.heap.size wr).alloc (Nat.le_refl _) (.cells (encS y).toArray 76)
            have HO4 := Lib.hid ((HOWN.out.below hbi).below hba)
            have hs4 : (wr.alloc (.cells (encS y).toArray 76)).heap.size = wr.heap.size + 1 := by simp
            have HS4 := Lib.hid hs4
            have HBA := Lib.hid hba
            clear hrow hy32 hq1 hba hs4
            go_wp2_with (first | ((with_reducible refine wpList_load_mid (op := ⟨some 60, _, _, _, _, _⟩) rfl 76 (.tmp 11) rfl wo.heap.size 0 ?_ (encS y) _ HR.out Try.underlying76 rfl HYC.out ?_); rfl) | ((with_reducible refine wpList_lit1 (o := ⟨some 61, _, _, _, _, _⟩) rfl 51 (.tmp 60) rfl 76 (encS y).toArray ?_ i0 _ 32 Try.underlying51 hi hz0 hz1 ?_ ?_ ?_ ?_); rfl; decide; (have := HY.out; simpa [encS] using this); decide) | (at_builtin; refine wpList_app _ rfl (.tmp 59) (.tmp 61) 51 51 rfl (w1.heap.size + 1) 76 i0 _ 32 32 Try.underlying51 hi hz0 hz1 hz2 rfl (by decide) _ _ _ rfl HO4.out.1 _ 1 (encS y) rfl (src_new _ Try.underlying51 1 1 (encS y) (by rw [encS_length, HY.out]) (fun u hu => Array.all_eq_true_iff_forall_mem.1 (encS_one y) u (by simpa using hu))) (by rw [HKL.out]; unfold maxLen; omega) (by rw [HKL.out]; omega) (by rw [HS4.out]; omega) ?_; intro v2 w5 hown2 hg2 hat2; have hownC := OwnC.app HO4.out (Chunks.one (sector_enc _ _ HY.out)) rfl hown2 hg2 hat2; rw [← HTK.out] at hownC; have hsl := hownC.ownR.sl; obtain ⟨B2, m2, d2, hv2, hm2, hm3⟩ := hsl; clear hm2 hm3; subst hv2; have hb5 := (Below.refl (w1.heap.size + 1) _).grown hg2 (by rw [HS4.out]; omega) (fun q hq => (HO4.out.1.lt q hq).1); have HQ5 := Lib.hid ((hb5.block w1.heap.size (by omega)).trans ((HBA.out.block w1.heap.size (by omega)).trans HQ1.out)); have c5 := cell_of_row _ w1.heap.size 0 _ _ _ HQ5.out; have f5 := free_of_row (i := 0) HQ5.out; have HOC := Lib.hid hownC; have HB5 := Lib.hid hb5; have HS5 := Lib.hid hb5.size; clear hownC hown2 hg2 hat2 hb5))
            go_roundw
            case rel =>
              have hset := setCell_eq_setRow w5 w1.heap.size 0 _ _ _ (.slice B2 m2 d2) HQ5.out
              have h5 : Below w1.heap.size w1 w5 := ((hbelI.trans (HBA.out.mono hbelI.size)).trans (HB5.out.mono (Nat.le_succ _)))
              have hsz5 : w1.heap.size + 1 ≤ w5.heap.size := by have h1 := HS5.out; have h2 := HS4.out; omega
              refine ⟨k + 1, by omega, by go_num, ?_, ?_, B2, m2, d2, cs ++ encS y, ?_, ?_⟩
              · exact h5.setCell (p := ⟨w1.heap.size, 0, none⟩) (Nat.le_refl _) _
              · simpa using hsz5
              · rw [hset]
                exact setRow_heap _ _ _ _ _ _ HQ5.out
              · rw [hset]
                exact HOC.out.setRow_other (Nat.lt_succ_self _) _
            case measure => simp [intOf]; omega
      · obtain rfl : k = n := by omega
        rw [List.take_of_length_le (by rw [setAt_length, HL.out]; exact Nat.le_refl _)] at hown
        have R2 := Lib.hid ((hbel.block (W.heap.size + 1) (by omega)).trans R1.out)
        have q0 : wr.cell? ⟨w1.heap.size, 0, none⟩ = some (.slice B m d) := by rw [cell_of_row _ _ _ _ _ _ hq]; rfl
        have q1 : wr.cell? ⟨w1.heap.size, 1, none⟩ = some (.slice none 0 0) := by rw [cell_of_row _ _ _ _ _ _ hq]; rfl
        have HOWN := Lib.hid hown
        clear hown hq
        go_wp2_with (first | ((with_reducible refine wpList_store_row (o := ⟨none, _, _, _, _, _⟩) rfl 54 (.tmp 6) (.tmp 65) rfl (W.heap.size + 1) #[.slice B m d, .slice none 0 0] ?_ ?_ 54 _ R2.out ?_ ?_ (two_one _ _ _ _ _ _) ?_); rfl; rfl; exact sizeDisk; rfl))
        have hbf : Below W.heap.size W (wr.setRow (W.heap.size + 1) #[.slice B m d, .slice none 0 0]) := below_setRow (hbW1.trans (hbel.mono hbW1.size)) (by omega) _
        have HRF := setRow_heap wr (W.heap.size + 1) _ #[.slice B m d, .slice none 0 0] _ _ R2.out
        exact bodyPost_ret (v := .tuple #[.agg #[.slice B m d, .slice none 0 0], .int .i64 0]) (run_results_pair rfl (W.heap.size + 1) rfl #[.slice B m d, .slice none 0 0] HRF _ Try.underlying54 rfl sizeDisk (.int .i64 0) rfl) rfl
          (Fell.slice HF.out hbf (by omega) HOWN.out (fun g hg => setRow_other wr (W.heap.size + 1) g _ (by omega)) (by rw [setRow_size]; exact Nat.le_refl _) rfl)
  · have HN := Lib.hid hf
    clear hf
    generalize hfe : diskF l ws = f at C1 HN
    have HE := Lib.hid hfe
    clear hfe
    have hn := HN.out
    have hf0 : (f == 0) = false := by simpa using hn
    clear hn
    go_enter Try.func44, Try.ntmps44
    go_wp2_with fail
    refine (C1.out _ hb0).mono ?_
    rintro e w1 ⟨rfl, hb1⟩
    have R1 := Lib.hid ((hb1.block _ (by simp)).trans (row_snd W _ _))
    have hbW1 := hb0.trans (hb1.mono hb0.size)
    clear hb1 hb0
    go_wp2_with (first | ((with_reducible refine wpList_store_row (o := ⟨none, _, _, _, _, _⟩) rfl 54 (.tmp 6) (.tmp 18) rfl (W.heap.size + 1) #[.slice none 0 0, .slice none 0 0] ?_ ?_ 54 _ R1.out ?_ ?_ (two_one _ _ _ _ _ _) ?_); rfl; rfl; exact sizeDisk; rfl))
    have hbf : Below W.heap.size W (w1.setRow (W.heap.size + 1) #[.slice none 0 0, .slice none 0 0]) := below_setRow hbW1 (by omega) _
    have HRF := setRow_heap w1 (W.heap.size + 1) _ #[.slice none 0 0, .slice none 0 0] _ _ R1.out
    exact bodyPost_ret (v := .tuple #[.agg #[.slice none 0 0, .slice none 0 0], .int .i64 f]) (run_results_pair rfl (W.heap.size + 1) rfl #[.slice none 0 0, .slice none 0 0] HRF _ Try.underlying54 rfl sizeDisk (.int .i64 f) rfl) rfl (Fell.bad HE.out HN.out hbf rfl)
end Go.Proofs.Ytbpibblidokhfaa
