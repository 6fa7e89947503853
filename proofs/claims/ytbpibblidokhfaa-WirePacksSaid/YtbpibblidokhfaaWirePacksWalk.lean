/- The walk of WirePacks: it returns true, and nothing that was there is turned. -/
import Derived.Test.YtbpibblidokhfaaBytesW
namespace Go.Proofs.Ytbpibblidokhfaa
open Go.ChangeShapes Go.WideShapes Go.ChangeAt Go.RowKit Go.Deep

theorem SlR.strAt {w : World} {S : Nat → Prop} {A : Option Addr} {n : Nat} {xs : List ByteArray} (h : SlR cStr w S A n xs) {i : Nat} (hi : i < n) :
    ∃ b o, A = some ⟨b, o, none⟩ ∧ S b ∧ ∃ x, xs[i]? = some x ∧ w.cell? ⟨b, o + i, none⟩ = some (.string x) ∧ x.size ≤ maxLen := by
  obtain ⟨b, o, e, hb, hx⟩ := h.2 (by omega)
  have hl : i < xs.length := by have := h.1; omega
  obtain ⟨cs, hat, rfl, hw⟩ := hx i xs[i] (List.getElem?_eq_getElem hl)
  refine ⟨b, o, e, hb, xs[i], List.getElem?_eq_getElem hl, ?_, hw⟩
  have := hat 0 (.string xs[i]) rfl
  simpa [cStr] using this

/-! ### the plain law -/
def packL (l : List ByteArray) : List UInt8 := l.flatMap fun s => bigL s.size 2 ++ s.data.toList
def packOk (l : List ByteArray) : Bool := l.all fun s => s.size ≤ 300
theorem packL_snoc (l : List ByteArray) (k : Nat) (s : ByteArray) (h : l[k]? = some s) : packL (l.take (k + 1)) = packL (l.take k) ++ (bigL s.size 2 ++ s.data.toList) := by
  rw [List.take_add_one, h]
  unfold packL
  rw [List.flatMap_append]
  simp
theorem packOk_snoc (l : List ByteArray) (k : Nat) (s : ByteArray) (h : l[k]? = some s) (hs : s.size ≤ 300) (hk : packOk (l.take k) = true) : packOk (l.take (k + 1)) = true := by
  rw [List.take_add_one, h]
  unfold packOk at *
  rw [List.all_append, hk]
  simpa using hs
theorem packOk_bad (l : List ByteArray) (k : Nat) (s : ByteArray) (h : l[k]? = some s) (hs : ¬ s.size ≤ 300) : packOk l = false := by
  unfold packOk
  rw [List.all_eq_false]
  exact ⟨s, List.mem_of_getElem? h, by simpa using hs⟩
theorem data_len (s : ByteArray) : s.data.toList.length = s.size := by rw [Array.length_toList]; rfl
theorem packL_len (l : List ByteArray) (h : packOk l = true) : (packL l).length ≤ 302 * l.length := by
  induction l with
  | nil => simp [packL]
  | cons s l ih =>
    unfold packOk at h
    rw [List.all_cons, Bool.and_eq_true] at h
    have h1 : s.size ≤ 300 := by simpa using h.1
    have := ih h.2
    unfold packL at *
    rw [List.flatMap_cons, List.length_append, List.length_append, bigL_len, data_len, List.length_cons]
    omega

/-- refused, or the bytes -/
def Packs (l : List ByteArray) (W : World) (e : Ending) (w' : World) : Prop :=
  Below W.heap.size W w' ∧ ∃ v, e = .returned (.tuple #[v, .int .i64 (if l.length ≤ 40 ∧ packOk l = true then 0 else 1)]) ∧ Sl cByte w' v (if l.length ≤ 40 ∧ packOk l = true then packL l else [])
theorem Packs.bad {l : List ByteArray} {W w' : World} {e : Ending} (h : ¬ (l.length ≤ 40 ∧ packOk l = true)) (hb : Below W.heap.size W w') (he : e = .returned (.tuple #[.slice none 0 0, .int .i64 1])) : Packs l W e w' :=
  ⟨hb, _, by rw [if_neg h]; exact he, by rw [if_neg h]; exact Sl.nil _ _⟩
theorem Packs.good {l : List ByteArray} {W w' : World} {e : Ending} {v : Value} (h1 : l.length ≤ 40) (h2 : packOk l = true) (hb : Below W.heap.size W w') (he : e = .returned (.tuple #[v, .int .i64 0])) (hv : Sl cByte w' v (packL l)) : Packs l W e w' :=
  ⟨hb, _, by rw [if_pos ⟨h1, h2⟩]; exact he, by rw [if_pos ⟨h1, h2⟩]; exact hv⟩

theorem infoByte : (Try.prog.info? 5).map (fun i => (i.zero, i.size, i.bytes)) = some (some (.int .u8 0), 1, 1) := by kernel_rfl

set_option maxRecDepth 100000 in
set_option maxHeartbeats 800000 in
theorem pack_any (W : World) (A : Option Addr) (n c : Nat) (l : List ByteArray) (h : SlR cStr W (lt W.heap.size) A n l) :
    Calls Try.prog 15 #[.slice A n c] W (Packs l W) := by
  have hn := h.1
  by_cases h40 : n ≤ 40
  · obtain ⟨i0, hi, hz0, hz1, hz2⟩ := info_parts infoByte
    have HN := Lib.hid hn
    clear hn
    go_enter Try.func15, Try.ntmps15
    go_wp2
    go_loopw [4, 12] (fun v i wr => ∃ k : Nat, k ≤ n ∧ i = .int .i64 k ∧ packOk (l.take k) = true ∧ wr.ownsRow W.heap.size 5 1 v (packL (l.take k)).length ((packL (l.take k)).map bv) ∧ Below W.heap.size W wr) (fun _ i _ => n - (intOf i).toNat)
    case atStart => exact ⟨0, Nat.zero_le _, rfl, rfl, World.ownsRow_nil _ _ _ _, Below.refl _ _⟩
    case round =>
      obtain ⟨k, hk, rfl, hok, hown, hbel⟩ := hrel
      by_cases hlt : k < n
      · obtain ⟨b, o, rfl, hb, s, hx, hcell, hsm⟩ := h.strAt hlt
        have hcell' : wr.cell? ⟨b, o + k, none⟩ = some (.string s) := (hbel.cell (p := ⟨b, o + k, none⟩) hb).trans hcell
        have H := Lib.hid h
        have HX := Lib.hid hx
        have HK := Lib.hid hok
        have HO := Lib.hid hown
        clear h hx hok hown hcell
        by_cases h300 : s.size ≤ 300
        · have HL := Lib.hid (packL_len _ HK.out)
          have hlen : (l.take k).length ≤ 40 := by rw [List.length_take]; omega
          have hll : (packL (l.take k)).length ≤ 20000 := by have := HL.out; omega
          go_wp2_with (first | (at_builtin; refine wpList_app _ rfl (.tmp 19) (.tmp 27) 24 24 rfl W.heap.size 5 i0 (.int .u8 0) 1 1 Try.underlying24 hi hz0 hz1 hz2 rfl (by decide) _ _ _ rfl (HO.out.alloc _) _ 2 _ rfl (src_new _ Try.underlying24 2 2 _ rfl (by intro u hu; simp at hu; rcases hu with rfl | rfl <;> rfl)) (by unfold maxLen; omega) (by omega) (by have := hbel.size; simp; omega) ?_; intro v1 w1 hown1 hg1 hat1; have hbel1 : Below W.heap.size W w1 := (hbel.alloc hbel.size _).grown hg1 (by have := hbel.size; simp; omega) (fun q hq => (HO.out.lt q hq).1)) | (at_builtin; refine wpList_app _ rfl (.tmp 28) (.tmp 29) 24 9 rfl W.heap.size 5 i0 (.int .u8 0) 1 1 Try.underlying24 hi hz0 hz1 hz2 rfl (by decide) _ _ _ rfl hown1 (.string s) s.size _ rfl (Src.ofString _ Try.underlying9 s) (by unfold maxLen; omega) (by omega) hbel1.size ?_; intro v2 w2 hown2 hg2 hat2; have hbel2 : Below W.heap.size W w2 := hbel1.grown hg2 hbel1.size (fun q hq => (hown1.lt q hq).1)))
          have HS := packL_snoc l k s HX.out
          have hown3 := own1 (ys := packL (l.take (k + 1))) hown2 (by rw [HS, byteCells_bv, byte_hi' _ (by omega), byte_lo]; simp [bigL, bv])
          have HO3 := Lib.hid hown3
          clear hown1 hown2 hown3 HS
          go_roundw
          case rel => exact ⟨k + 1, by omega, by go_num, packOk_snoc l k s HX.out h300 HK.out, HO3.out, hbel2⟩
          case measure => simp [intOf]; omega
        · go_wp2
          go_ret2
          exact Packs.bad (fun hh => by have := packOk_bad l k s HX.out h300; rw [hh.2] at this; cases this) hbel rfl
      · obtain rfl : k = n := by omega
        have he : l.take k = l := List.take_of_length_le (by have := HN.out; omega)
        rw [he] at hok hown
        have HK := Lib.hid hok
        have HO := Lib.hid hown
        clear h hok hown he
        go_wp2
        go_ret2
        exact Packs.good (by have := HN.out; omega) HK.out hbel rfl (ownR_bytes HO.out).toSl
  · clear h
    have HN := Lib.hid hn
    clear hn
    go_enter Try.func15, Try.ntmps15
    go_wp2
    go_ret2
    exact Packs.bad (fun hh => by have := HN.out; omega) (Below.refl _ _) rfl

set_option maxRecDepth 100000 in
set_option maxHeartbeats 800000 in
theorem packed_any (W : World) (A : Option Addr) (n c : Nat) (l : List ByteArray) (h : SlR cStr W (lt W.heap.size) A n l) :
    Calls Try.prog 16 #[.slice A n c] W (Packs l W) := by
  have hn := h.1
  by_cases h40 : n ≤ 40
  · have HN := Lib.hid hn
    clear hn
    go_enter Try.func16, Try.ntmps16
    go_wp2
    go_loopw [4, 12] (fun v i wr => ∃ k : Nat, k ≤ n ∧ i = .int .i64 k ∧ packOk (l.take k) = true ∧ v = .string (bs (packL (l.take k))) ∧ Below W.heap.size W wr) (fun _ i _ => n - (intOf i).toNat)
    case atStart => exact ⟨0, Nat.zero_le _, rfl, rfl, rfl, Below.refl _ _⟩
    case round =>
      obtain ⟨k, hk, rfl, hok, rfl, hbel⟩ := hrel
      by_cases hlt : k < n
      · obtain ⟨b, o, rfl, hb, s, hx, hcell, hsm⟩ := h.strAt hlt
        have hcell' : wr.cell? ⟨b, o + k, none⟩ = some (.string s) := (hbel.cell (p := ⟨b, o + k, none⟩) hb).trans hcell
        have H := Lib.hid h
        have HX := Lib.hid hx
        have HK := Lib.hid hok
        clear h hx hok hcell
        by_cases h300 : s.size ≤ 300
        · have hll : (packL (l.take k)).length ≤ 20000 := by
            have h1 := packL_len _ HK.out
            have hlen : (l.take k).length ≤ 40 := by rw [List.length_take]; omega
            omega
          have hsz := bs_size (packL (l.take k))
          have HB := Lib.hid (fun w => big_any s.size 2 w (by omega) (by omega))
          have hbl : (bs (bigL s.size 2)).size = 2 := by rw [bs_size, bigL_len]
          generalize hq : bs (packL (l.take k)) = q at hsz ⊢
          generalize hp : bs (bigL s.size 2) = p at hbl HB
          have HQ := Lib.hid hq
          have HP := Lib.hid hp
          have hq1 : q.size ≤ 20000 := by omega
          have hp1 : p.size ≤ 2 := by omega
          clear hq hp hsz hbl
          go_wp2_with fail
          refine (HB.out _).mono ?_
          rintro e w1 ⟨rfl, hb1⟩
          have hbel1 : Below W.heap.size W w1 := hbel.trans (hb1.mono hbel.size)
          go_wp2
          have HS := packL_snoc l k s HX.out
          have HR := Lib.hid (show q ++ (p ++ s) = bs (packL (l.take (k + 1))) from by rw [HS, ← HQ.out, ← HP.out, eq_bs s, bs_append, bs_append]; rfl)
          clear HS
          go_roundw
          case rel => exact ⟨k + 1, by omega, by go_num, packOk_snoc l k s HX.out h300 HK.out, by rw [HR.out], hbel1⟩
          case measure => simp [intOf]; omega
        · go_wp2
          go_ret2
          exact Packs.bad (fun hh => by have := packOk_bad l k s HX.out h300; rw [hh.2] at this; cases this) hbel rfl
      · obtain rfl : k = n := by omega
        have he : l.take k = l := List.take_of_length_le (by have := HN.out; omega)
        rw [he] at hok
        simp only [he]
        have HK := Lib.hid hok
        clear h hok he
        go_wp2
        go_ret2
        exact Packs.good (by have := HN.out; omega) HK.out (hbel.trans ((bytesWorld_below _ _ _).mono hbel.size)) rfl (bytesWorld_sl _ _ _ (by
          have h1 := packL_len _ HK.out
          have := HN.out
          unfold maxLen
          omega))
  · clear h
    have HN := Lib.hid hn
    clear hn
    go_enter Try.func16, Try.ntmps16
    go_wp2
    go_ret2
    exact Packs.bad (fun hh => by have := HN.out; omega) (Below.refl _ _) rfl

set_option maxHeartbeats 400000 in
theorem walkWirePacks (W : World) (A0 : Option Addr) (n0 c0 : Nat) (a0 : (List ByteArray)) (h0 : (cSlice cStr).rel W (lt W.heap.size) (.slice A0 n0 c0 : Value).cells.toList a0) :
    Calls Try.prog 4 #[.slice A0 n0 c0] W fun e W' => e = .returned (.bool true) ∧ Below W.heap.size W W' := by
  obtain ⟨A, n, cap, he, h1, h2, h3⟩ := h0
  simp [Value.cells] at he
  obtain ⟨rfl, rfl, rfl⟩ := he
  have C1 := Lib.hid (pack_any W A0 n0 c0 a0 h3)
  have C2 := Lib.hid (fun w (hb : Below W.heap.size W w) => packed_any w A0 n0 c0 a0 ((h3.below hb).up hb.size))
  clear h1 h2 h3
  unfold Packs at C1 C2
  generalize (if a0.length ≤ 40 ∧ packOk a0 = true then packL a0 else []) = xs at C1 C2
  generalize (if a0.length ≤ 40 ∧ packOk a0 = true then (0 : Int) else 1) = f at C1 C2
  go_enter Try.func4, Try.ntmps4
  go_wp2_with fail
  refine C1.out.mono ?_
  rintro e w1 ⟨hb1, v1, rfl, hs1⟩
  have S1 := Lib.hid hs1
  clear hs1
  go_wp2_with fail
  refine (C2.out _ hb1).mono ?_
  rintro e w2 ⟨hb2, v2, rfl, hs2⟩
  have S2 := Lib.hid hs2
  clear hs2
  go_wp2_with fail
  refine (sameBytes_any w2 v1 v2 xs (S1.out.below hb2) S2.out).mono ?_
  rintro e w3 ⟨rfl, rfl⟩
  go_wp2
  go_ret
  exact ⟨rfl, hb1.trans (hb2.mono hb1.size)⟩
end Go.Proofs.Ytbpibblidokhfaa
