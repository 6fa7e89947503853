/- The walk of CrcSums: it returns true, and nothing that was there is turned. -/
import Derived.Test.YtbpibblidokhfaaBits
namespace Go.Proofs.Ytbpibblidokhfaa
open Go.ChangeShapes Go.WideShapes Go.ChangeAt Go.RowKit Go.Deep

/-! ### The plain law -/
def iter {α : Type} (f : α → α) : Nat → α → α
  | 0, x => x
  | n + 1, x => f (iter f n x)
def pBit (c : W32) : W32 := if weq (wand c (wc 1)) 1 = true then wxor (wshr c 1) (wc 2197175160) else wshr c 1
def pByte (c : W32) (x : UInt8) : W32 := iter pBit 8 (wxor c (wc (x.toNat : Int)))
def crcP (xs : List UInt8) : W32 := wnot (xs.foldl pByte (wc 4294967295))
def rBit (x : UInt8) (i : Nat) (l : W32) : W32 := wxor (wshr l 1) (wmul (wand (wxor l (wshr (wc (x.toNat : Int)) i)) (wc 1)) (wc 2197175160))
def rBits (x : UInt8) (l : W32) : Nat → W32
  | 0 => l
  | i + 1 => rBit x i (rBits x l i)
def rByte (l : W32) (x : UInt8) : W32 := rBits x l 8
def crcR (xs : List UInt8) : W32 := wxor (xs.foldl rByte (wc 4294967295)) (wc 4294967295)

theorem pBit_eq (c : W32) : pBit c = (c >>> 1) ^^^ ((c &&& 1#32) * 2197175160#32) := by
  unfold pBit weq wand wxor wshr wc
  have e : BitVec.ofInt 32 1 = 1#32 := by decide
  have e2 : BitVec.ofInt 32 2197175160 = 2197175160#32 := by decide
  rw [e, e2]
  have h01 : c &&& 1#32 = 0#32 ∨ c &&& 1#32 = 1#32 := by
    have hlt : (c &&& 1#32).toNat < 2 := by
      rw [BitVec.toNat_and]
      exact Nat.lt_of_le_of_lt Nat.and_le_right (by decide)
    rcases (show (c &&& 1#32).toNat = 0 ∨ (c &&& 1#32).toNat = 1 from by omega) with h | h
    · exact .inl (BitVec.eq_of_toNat_eq (by simpa using h))
    · exact .inr (BitVec.eq_of_toNat_eq (by simpa using h))
  rcases h01 with h | h <;> rw [h] <;> simp

theorem rBit_eq (x : UInt8) (i : Nat) (l : W32) (c : W32) (h : c = l ^^^ (BitVec.ofNat 32 x.toNat >>> i)) : rBit x i l ^^^ (BitVec.ofNat 32 x.toNat >>> (i + 1)) = pBit c := by
  rw [pBit_eq]
  unfold rBit wmul wand wxor wshr wc
  have e : BitVec.ofInt 32 1 = 1#32 := by decide
  have e2 : BitVec.ofInt 32 2197175160 = 2197175160#32 := by decide
  have e3 : BitVec.ofInt 32 (x.toNat : Int) = BitVec.ofNat 32 x.toNat := by rw [BitVec.ofInt_natCast]
  rw [e, e2, e3, ← h]
  rw [show c >>> 1 = (l >>> 1) ^^^ (BitVec.ofNat 32 x.toNat >>> (i + 1)) from by rw [h, BitVec.ushiftRight_xor_distrib, ← BitVec.shiftRight_add]]
  rw [BitVec.xor_assoc, BitVec.xor_assoc, BitVec.xor_comm ((c &&& 1#32) * 2197175160#32)]

theorem rBits_eq (x : UInt8) (l : W32) (n : Nat) : rBits x l n ^^^ (BitVec.ofNat 32 x.toNat >>> n) = iter pBit n (wxor l (wc (x.toNat : Int))) := by
  induction n with
  | zero =>
    unfold rBits iter wxor wc
    rw [BitVec.ofInt_natCast]
    simp
  | succ n ih =>
    unfold rBits iter
    exact rBit_eq x n _ _ ih.symm

theorem rByte_eq (l : W32) (x : UInt8) : rByte l x = pByte l x := by
  have h := rBits_eq x l 8
  have e : BitVec.ofNat 32 x.toNat >>> 8 = 0#32 := by
    apply BitVec.eq_of_toNat_eq
    have := x.toNat_lt
    simp only [BitVec.toNat_ushiftRight, BitVec.toNat_ofNat, Nat.shiftRight_eq_div_pow]
    omega
  rw [e, BitVec.xor_zero] at h
  exact h

theorem crc_eq (xs : List UInt8) : crcR xs = crcP xs := by
  unfold crcR crcP
  have : rByte = pByte := by funext l x; exact rByte_eq l x
  rw [this]
  generalize xs.foldl pByte (wc 4294967295) = c
  unfold wxor wnot wc
  have e : BitVec.ofInt 32 4294967295 = BitVec.allOnes 32 := by decide
  rw [e, BitVec.xor_allOnes]

theorem foldl_take {α β : Type} (f : β → α → β) (z : β) (xs : List α) {k : Nat} {x : α} (h : xs[k]? = some x) : (xs.take (k + 1)).foldl f z = f ((xs.take k).foldl f z) x := by
  rw [List.take_add_one, h, List.foldl_append]
  rfl

theorem iter_succ {α : Type} (f : α → α) (n : Nat) (x : α) : iter f (n + 1) x = f (iter f n x) := rfl
theorem pBit_yes {c : W32} (h : weq (wand c (wc 1)) 1 = true) : pBit c = wxor (wshr c 1) (wc 2197175160) := by unfold pBit; rw [if_pos h]
theorem pBit_no {c : W32} (h : weq (wand c (wc 1)) 1 = false) : pBit c = wshr c 1 := by unfold pBit; rw [if_neg (by simp [h])]

/-! ### The walks -/
set_option maxHeartbeats 800000 in
theorem crc_any (w : World) (B : Nat) (A : Option Addr) (n c : Nat) (xs : List UInt8) (h : SlR cByte w B A n xs) (hn : n ≤ 9223372036854775807) :
    Calls Try.prog 20 #[.slice A n c] w fun e w' => e = .returned (u32 (crcP xs)) ∧ w = w' := by
  go_enter Try.func20, Try.ntmps20
  go_wp2
  go_loop [3, 8] (fun q i => ∃ k : Nat, k ≤ n ∧ i = .int .i64 k ∧ q = u32 ((xs.take k).foldl pByte (wc 4294967295))) (fun _ i => n - (intOf i).toNat)
  case atStart => exact ⟨0, Nat.zero_le _, rfl, rfl⟩
  case round =>
    obtain ⟨k, hk, rfl, rfl⟩ := hrel
    by_cases hlt : k < n
    · obtain ⟨b, o, rfl, hb, x, hx, hcell⟩ := h.byteAt hlt
      have HS := Lib.hid (foldl_take pByte (wc 4294967295) xs hx)
      clear h hx
      generalize hq : (xs.take k).foldl pByte (wc 4294967295) = q at HS
      clear hq
      go_wp2
      go_loop [3, 16] (fun r i => ∃ j : Nat, j ≤ 8 ∧ i = .int .i64 j ∧ r = u32 (iter pBit j (wxor q (wc (x.toNat : Int))))) (fun _ i => 8 - (intOf i).toNat)
      case atStart => exact ⟨0, by omega, rfl, rfl⟩
      case round =>
        obtain ⟨j, hj, rfl, rfl⟩ := hrel
        by_cases hj8 : j < 8
        · have HI := Lib.hid (iter_succ pBit j (wxor q (wc (x.toNat : Int))))
          generalize iter pBit j (wxor q (wc (x.toNat : Int))) = d at HI ⊢
          cases hw : weq (wand d (wc 1)) 1
          · have HN := Lib.hid (pBit_no hw)
            go_wp2
            go_round
            case rel => exact ⟨j + 1, by omega, by go_num, by rw [HI.out, HN.out]⟩
            case measure => simp [intOf]; omega
          · have HN := Lib.hid (pBit_yes hw)
            go_wp2
            go_round
            case rel => exact ⟨j + 1, by omega, by go_num, by rw [HI.out, HN.out]⟩
            case measure => simp [intOf]; omega
        · obtain rfl : j = 8 := by omega
          go_wp2
          go_round
          case rel => exact ⟨k + 1, by omega, by go_num, by rw [HS.out]; rfl⟩
          case measure => simp [intOf]; omega
    · obtain rfl : n = k := by omega
      have HL := Lib.hid h.1
      clear h
      have he : xs.take n = xs := List.take_of_length_le (by have := HL.out; omega)
      rw [he]
      clear he
      go_wp2
      go_ret
      exact ⟨rfl, rfl⟩

set_option maxHeartbeats 800000 in
theorem checked_any (w : World) (B : Nat) (A : Option Addr) (n c : Nat) (xs : List UInt8) (h : SlR cByte w B A n xs) (hn : n ≤ 9223372036854775807) :
    Calls Try.prog 21 #[.slice A n c] w fun e w' => e = .returned (u32 (crcR xs)) ∧ w = w' := by
  go_enter Try.func21, Try.ntmps21
  go_wp2
  go_loop [3, 10] (fun q i => ∃ k : Nat, k ≤ n ∧ i = .int .i64 k ∧ q = u32 ((xs.take k).foldl rByte (wc 4294967295))) (fun _ i => n - (intOf i).toNat)
  case atStart => exact ⟨0, Nat.zero_le _, rfl, rfl⟩
  case round =>
    obtain ⟨k, hk, rfl, rfl⟩ := hrel
    by_cases hlt : k < n
    · obtain ⟨b, o, rfl, hb, x, hx, hcell⟩ := h.byteAt hlt
      have HS := Lib.hid (foldl_take rByte (wc 4294967295) xs hx)
      clear h hx
      generalize hq : (xs.take k).foldl rByte (wc 4294967295) = q at HS
      clear hq
      go_wp2
      go_loop [3, 6] (fun r i => ∃ j : Nat, j ≤ 8 ∧ i = .int .i64 j ∧ r = u32 (rBits x q j)) (fun _ i => 8 - (intOf i).toNat)
      case atStart => exact ⟨0, by omega, rfl, rfl⟩
      case round =>
        obtain ⟨j, hj, rfl, rfl⟩ := hrel
        by_cases hj8 : j < 8
        · have HI := Lib.hid (show rBits x q (j + 1) = rBit x j (rBits x q j) from rfl)
          generalize rBits x q j = d at HI ⊢
          go_wp2
          go_round
          case rel => exact ⟨j + 1, by omega, by go_num, by rw [HI.out]; rfl⟩
          case measure => simp [intOf]; omega
        · obtain rfl : j = 8 := by omega
          go_wp2
          go_round
          case rel => exact ⟨k + 1, by omega, by go_num, by rw [HS.out]; rfl⟩
          case measure => simp [intOf]; omega
    · obtain rfl : n = k := by omega
      have HL := Lib.hid h.1
      clear h
      have he : xs.take n = xs := List.take_of_length_le (by have := HL.out; omega)
      rw [he]
      clear he
      go_wp2
      go_ret
      exact ⟨rfl, rfl⟩

theorem walkCrcSums (W : World) (A0 : Option Addr) (n0 c0 : Nat) (a0 : (List UInt8)) (h0 : (cSlice cByte).rel W W.heap.size (.slice A0 n0 c0 : Value).cells.toList a0) :
    Calls Try.prog 6 #[.slice A0 n0 c0] W fun e W' => e = .returned (.bool true) ∧ Below W.heap.size W W' := by
  obtain ⟨A, n, cap, he, h1, h2, h3⟩ := h0
  simp [Value.cells] at he
  obtain ⟨rfl, rfl, rfl⟩ := he
  unfold maxLen at h2
  have hw := weqw_self (crcP a0)
  have C1 := Lib.hid (fun w => crc_any w W.heap.size A0 n0 c0 a0)
  have C2 := Lib.hid (fun w => checked_any w W.heap.size A0 n0 c0 a0)
  have HE := Lib.hid (crc_eq a0)
  have HR := Lib.hid h3
  clear h3
  go_enter Try.func6, Try.ntmps6
  go_wp2_with fail
  refine (C1.out _ HR.out (by omega)).mono ?_
  rintro e w1 ⟨rfl, rfl⟩
  go_wp2_with fail
  refine (C2.out _ HR.out (by omega)).mono ?_
  rintro e w2 ⟨rfl, rfl⟩
  rw [HE.out]
  go_wp2
  go_ret
  exact ⟨rfl, Below.refl _ _⟩
end Go.Proofs.Ytbpibblidokhfaa
