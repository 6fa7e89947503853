/- The walks of the oracle's four and frame, and of the reference's framed: a frame's bytes. No condition. -/
import Derived.Test.YtbpibblidokhfaaNumW
import Derived.Deep.RegionHeld3
namespace Go.Proofs.Ytbpibblidokhfaa
open Go.ChangeShapes Go.WideShapes Go.ChangeAt Go.RowKit Go.Deep

theorem SlR.bytesAt {w : World} {S : Nat → Prop} {A : Option Addr} {n : Nat} {xs : List (List UInt8)} (h : SlR (cSlice cByte) w S A n xs) {i : Nat} (hi : i < n) :
    ∃ b o, A = some ⟨b, o, none⟩ ∧ S b ∧ ∃ x, xs[i]? = some x ∧ ∃ B m c, w.cell? ⟨b, o + i, none⟩ = some (.slice B m c) ∧ m ≤ c ∧ c ≤ maxLen ∧ SlR cByte w S B m x := by
  obtain ⟨b, o, e, hb, hx⟩ := h.2 (by omega)
  have hl : i < xs.length := by have := h.1; omega
  obtain ⟨cs, hat, B, m, c, rfl, h1, h2, h3⟩ := hx i xs[i] (List.getElem?_eq_getElem hl)
  refine ⟨b, o, e, hb, xs[i], List.getElem?_eq_getElem hl, B, m, c, ?_, h1, h2, h3⟩
  have := hat 0 _ rfl
  simpa [cSlice] using this

/-- the low byte of a number -/
def byteI (x : Int) : UInt8 := UInt8.ofNat (x % 256).toNat
theorem bv_byteI (x : Int) : Value.int .u8 (x % 256) = bv (byteI x) := by
  refine congrArg (Value.int .u8) ?_
  unfold byteI
  rw [UInt8.toNat_ofNat']
  omega
theorem byteI_nat (n : Nat) : byteI (n : Int) = UInt8.ofNat n := by
  apply UInt8.toNat_inj.1
  unfold byteI
  rw [UInt8.toNat_ofNat', UInt8.toNat_ofNat']
  omega
/-- four bytes of a number, the highest first -/
def fourL (n : Int) : List UInt8 := [byteI (n / 16777216), byteI (n / 65536), byteI (n / 256), byteI n]
theorem fourL_nat (n : Nat) : fourL (n : Int) = bigL n 4 := by
  unfold fourL bigL bigL bigL bigL bigL
  rw [show ((n : Int) / 16777216) = ((n / 16777216 : Nat) : Int) from by omega, show ((n : Int) / 65536) = ((n / 65536 : Nat) : Int) from by omega, show ((n : Int) / 256) = ((n / 256 : Nat) : Int) from by omega,
    byteI_nat, byteI_nat, byteI_nat, byteI_nat]
  simp

theorem new_bytes (w : World) (e : TypeId) (xs : List UInt8) (h : xs.length ≤ maxLen) : Sl cByte (w.alloc (.cells (xs.map bv).toArray e)) (.slice (some ⟨w.heap.size, 0, none⟩) xs.length xs.length) xs := by
  have := World.ownsRow_lit (base := w.heap.size) (e := e) (size := 1) w (xs.map bv).toArray xs.length (Nat.le_refl _) h (by simp)
  exact (ownR_bytes (by simpa using this)).toSl

set_option maxHeartbeats 400000 in
theorem four_any (n : Int) (w : World) : Calls Try.prog 60 #[.int .i64 n] w fun e w' => ∃ v, e = .returned v ∧ Sl cByte w' v (fourL n) ∧ Below w.heap.size w w' := by
  go_enter Try.func60, Try.ntmps60
  go_wp2
  go_ret
  refine ⟨_, rfl, ?_, (Below.refl _ _).alloc (Nat.le_refl _) _⟩
  have h := new_bytes w 5 (fourL n) (by simp [fourL, maxLen])
  simp only [fourL, List.map, ← bv_byteI, List.length_cons, List.length_nil] at h
  exact h

/-! ### a frame -/
def partsL (l : List (List UInt8)) : List UInt8 := l.flatMap fun p => bigL p.length 4 ++ p
def frameL (tag : Int) (l : List (List UInt8)) : List UInt8 := byteI tag :: UInt8.ofNat l.length :: partsL l
theorem partsL_snoc (l : List (List UInt8)) (k : Nat) (p : List UInt8) (h : l[k]? = some p) : partsL (l.take (k + 1)) = partsL (l.take k) ++ (bigL p.length 4 ++ p) := by
  rw [List.take_add_one, h]
  unfold partsL
  rw [List.flatMap_append]
  simp
theorem partsL_take (l : List (List UInt8)) (k : Nat) : (partsL (l.take k)).length ≤ (partsL l).length := by
  have : partsL l = partsL (l.take k) ++ partsL (l.drop k) := by unfold partsL; rw [← List.flatMap_append, List.take_append_drop]
  rw [this, List.length_append]
  omega
theorem infoByte : (Try.prog.info? 5).map (fun i => (i.zero, i.size, i.bytes)) = some (some (.int .u8 0), 1, 1) := by kernel_rfl

set_option maxRecDepth 100000 in
set_option maxHeartbeats 800000 in
theorem frame_any (W : World) (tag : Int) (A : Option Addr) (n c : Nat) (l : List (List UInt8)) (h : SlR (cSlice cByte) W (lt W.heap.size) A n l) (hlen : (partsL l).length ≤ 1000000000000) (hn : n ≤ 1000000) :
    Calls Try.prog 53 #[.int .i64 tag, .slice A n c] W fun e w' => ∃ v, e = .returned v ∧ Sl cByte w' v (frameL tag l) ∧ Below W.heap.size W w' := by
  obtain ⟨i0, hi, hz0, hz1, hz2⟩ := info_parts infoByte
  have hl := h.1
  have H0 := Lib.hid (fun p : World => four_any)
  have HN := Lib.hid hl
  clear hl
  go_enter Try.func53, Try.ntmps53
  go_wp2
  go_loopw [5, 16] (fun v i wr => ∃ k : Nat, k ≤ n ∧ i = .int .i64 k ∧ wr.ownsRow W.heap.size 5 1 v (byteI tag :: byteI n :: partsL (l.take k)).length ((byteI tag :: byteI n :: partsL (l.take k)).map bv) ∧ Below W.heap.size W wr) (fun _ i _ => n - (intOf i).toNat)
  case atStart =>
    refine ⟨0, Nat.zero_le _, rfl, ?_, (Below.refl _ _).alloc (Nat.le_refl _) _⟩
    have := World.ownsRow_lit (base := W.heap.size) (e := 5) (size := 1) W #[bv (byteI tag), bv (byteI n)] 2 (Nat.le_refl _) (by unfold maxLen; omega) rfl
    simpa [partsL, ← bv_byteI] using this
  case round =>
    obtain ⟨k, hk, rfl, hown, hbel⟩ := hrel
    by_cases hlt : k < n
    · obtain ⟨b, o, rfl, hb, p, hx, B, m, cc, hcell, hmc, hcm, hs⟩ := h.bytesAt hlt
      have hcell' : wr.cell? ⟨b, o + k, none⟩ = some (.slice B m cc) := (hbel.cell (p := ⟨b, o + k, none⟩) hb).trans hcell
      have HP := Lib.hid (partsL_snoc l k p hx)
      have hle : (partsL (l.take (k + 1))).length ≤ 1000000000000 := Nat.le_trans (partsL_take l (k + 1)) hlen
      have hm : p.length = m := hs.1
      rw [HP.out, List.length_append, List.length_append, bigL_len, hm] at hle
      have HS := Lib.hid hs
      have HM := Lib.hid hm
      have HO := Lib.hid hown
      have H := Lib.hid h
      clear h hx hs hm hown hcell
      have hol : (byteI tag :: byteI n :: partsL (l.take k)).length = (partsL (l.take k)).length + 2 := by simp
      have HOL := Lib.hid hol
      clear hol
      go_wp2_with fail
      refine (four_any _ _).mono ?_
      rintro e w1 ⟨v1, rfl, hs1, hb1⟩
      obtain ⟨A1, n1, c1, rfl, hn1, _, _, hs1⟩ := hs1
      obtain rfl : n1 = 4 := hn1
      have S1 := Lib.hid hs1
      have hbel1 : Below W.heap.size W w1 := hbel.trans (hb1.mono hbel.size)
      have HO1 := Lib.hid (own_below HO.out hb1)
      go_wp2_with (first | (at_builtin; refine wpList_app _ rfl (.tmp 20) (.tmp 23) 24 24 rfl W.heap.size 5 i0 (.int .u8 0) 1 1 Try.underlying24 hi hz0 hz1 hz2 rfl (by decide) _ _ _ rfl HO1.out _ _ _ rfl (src_bytes _ Try.underlying24 S1.out) (by have := HOL.out; unfold maxLen; omega) (by have := HOL.out; omega) hbel1.size ?_; intro v2 w2 hown2 hg2 hat2; have hbel2 : Below W.heap.size W w2 := hbel1.grown hg2 hbel1.size (fun q hq => (HO1.out.lt q hq).1)) | (at_builtin; refine wpList_app _ rfl (.tmp 24) (.tmp 25) 24 24 rfl W.heap.size 5 i0 (.int .u8 0) 1 1 Try.underlying24 hi hz0 hz1 hz2 rfl (by decide) _ _ _ rfl hown2 _ _ _ rfl (src_bytes _ Try.underlying24 (HS.out.below hbel2)) (by have := HOL.out; unfold maxLen; omega) (by have := HOL.out; omega) hbel2.size ?_; intro v3 w3 hown3 hg3 hat3; have hbel3 : Below W.heap.size W w3 := hbel2.grown hg3 hbel2.size (fun q hq => (hown2.lt q hq).1)))
      have hown4 := own1 (ys := byteI tag :: byteI n :: partsL (l.take (k + 1))) hown3 (by rw [HP.out, HM.out, ← fourL_nat]; simp)
      have HO4 := Lib.hid hown4
      clear hown2 hown3 hown4 hg2 hg3 hat2 hat3
      go_roundw
      case rel => exact ⟨k + 1, by omega, by go_num, HO4.out, hbel3⟩
      case measure => simp [intOf]; omega
    · obtain rfl : k = n := by omega
      have he : l.take k = l := List.take_of_length_le (by have := HN.out; omega)
      rw [he] at hown
      have HO := Lib.hid hown
      clear h hown he
      go_wp2
      go_ret
      exact ⟨_, rfl, by
        have := (ownR_bytes HO.out).toSl
        rw [byteI_nat, ← HN.out] at this
        exact this, hbel⟩

set_option maxRecDepth 100000 in
set_option maxHeartbeats 800000 in
theorem framed_any (W : World) (tag : Int) (A : Option Addr) (n c : Nat) (l : List (List UInt8)) (h : SlR (cSlice cByte) W (lt W.heap.size) A n l) (hlen : (partsL l).length ≤ 1000000000000) (hn : n ≤ 1000000) :
    Calls Try.prog 54 #[.int .i64 tag, .slice A n c] W fun e w' => e = .returned (.string (bs (frameL tag l))) ∧ Below W.heap.size W w' := by
  have hl := h.1
  have HN := Lib.hid hl
  clear hl
  have HB := Lib.hid (show strOfNums [tag % 256, (n : Int) % 256] = bs [byteI tag, byteI n] from strOfNums_eq _ _ (by simp [byteI]))
  go_enter Try.func54, Try.ntmps54
  go_wp2
  simp only [HB.out]
  go_loopw [5, 17] (fun v i wr => ∃ k : Nat, k ≤ n ∧ i = .int .i64 k ∧ v = .string (bs (byteI tag :: byteI n :: partsL (l.take k))) ∧ Below W.heap.size W wr) (fun _ i _ => n - (intOf i).toNat)
  case atStart => exact ⟨0, Nat.zero_le _, rfl, rfl, (Below.refl _ _).alloc (Nat.le_refl _) _⟩
  case round =>
    obtain ⟨k, hk, rfl, rfl, hbel⟩ := hrel
    by_cases hlt : k < n
    · obtain ⟨b, o, rfl, hb, p, hx, B, m, cc, hcell, hmc, hcm, hs⟩ := h.bytesAt hlt
      have hcell' : wr.cell? ⟨b, o + k, none⟩ = some (.slice B m cc) := (hbel.cell (p := ⟨b, o + k, none⟩) hb).trans hcell
      have HP := Lib.hid (partsL_snoc l k p hx)
      have hle : (partsL (l.take (k + 1))).length ≤ 1000000000000 := Nat.le_trans (partsL_take l (k + 1)) hlen
      have hm : p.length = m := hs.1
      rw [HP.out, List.length_append, List.length_append, bigL_len, hm] at hle
      have HS := Lib.hid hs
      have HM := Lib.hid hm
      have H := Lib.hid h
      clear h hx hs hm hcell
      have hol : (bs (byteI tag :: byteI n :: partsL (l.take k))).size = (partsL (l.take k)).length + 2 := by rw [bs_size]; simp
      generalize hq : bs (byteI tag :: byteI n :: partsL (l.take k)) = q at hol ⊢
      have HQ := Lib.hid hq
      have hol1 : q.size ≤ 1000000000002 := by omega
      clear hol hq
      have e0 := run_string_of_bytes (P := Try.prog) wr.drew 24 5 Try.underlying24 Try.underlying5 (c := cc) (HS.out.below (hbel.drew))
      have HC := Lib.hid (fun w' (hb' : Below wr.heap.size wr.drew w') => run_string_of_bytes (P := Try.prog) w' 24 5 Try.underlying24 Try.underlying5 (c := cc) (HS.out.below (hbel.drew.trans (hb'.mono hbel.size))))
      have HG := Lib.hid (fun w => (show Calls Try.prog 45 #[.int .u64 (m : Int), .int .i64 4] w _ from big_any m 4 w (by omega) (by omega)))
      have hsz : (bs p).size = m := by rw [bs_size]; exact HM.out
      have hsz1 : (bs p).size ≤ 1000000000000 := by omega
      have hsz2 : (bs (bigL m 4)).size = 4 := by rw [bs_size, bigL_len]
      generalize hbp : bs p = pp at *
      generalize hbg : bs (bigL m 4) = gg at *
      have e2 := IntWalk.u64_in (m : Int) (by omega)
      have HR := Lib.hid (show q ++ (gg ++ pp) = bs (byteI tag :: byteI n :: partsL (l.take (k + 1))) from by rw [← HQ.out, ← hbp, ← hbg, bs_append, bs_append, HP.out, HM.out]; simp)
      clear hbp hbg
      go_wp2
      go_region_with (go_at_call 45; (with_reducible refine (HG.out _).mono ?_); rintro e w' ⟨rfl, hb1⟩; have e1 := HC.out _ hb1)
      all_goals
        go_wp2
        go_roundw
        case rel =>
          refine ⟨k + 1, by omega, by go_num, by rw [HR.out], hbel.drew.trans (Below.mono (B := wr.drew.heap.size) ?_ hbel.size)⟩
          assumption
        case measure => simp [intOf]; omega
    · obtain rfl : k = n := by omega
      have he : l.take k = l := List.take_of_length_le (by have := HN.out; omega)
      rw [he]
      clear h he
      go_wp2
      go_ret
      exact ⟨by unfold frameL; rw [HN.out, byteI_nat]; rfl, hbel⟩
end Go.Proofs.Ytbpibblidokhfaa
