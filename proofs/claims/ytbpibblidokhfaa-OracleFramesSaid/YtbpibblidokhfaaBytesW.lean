/- Bytes and texts in a walk: the conversions between them; the walks of sameBytes and of the reference's big. No condition. -/
import Derived.Test.YtbpibblidokhfaaMem
namespace Go.Proofs.Ytbpibblidokhfaa
open Go.ChangeShapes Go.WideShapes Go.ChangeAt Go.RowKit Go.Deep

section
variable {P : Program} (w : World)
@[go_sem] theorem conv_new1 (src dst e : TypeId) (x : Int) (hs : P.underlying src = some (.slice (P.elem src))) (he : P.underlying (P.elem src) = some (.int .u8)) (hd : P.underlying dst = some .string) :
    (convert src dst (.slice (some ⟨w.heap.size, 0, none⟩) 1 1)).run P (w.alloc (.cells #[.int .u8 x] e)) = .ok (.string (strOfNums [x])) (w.alloc (.cells #[.int .u8 x] e)) :=
  run_convert_bytes_arg (P := P) _ src _ hs he w.heap.size 0 1 1 [x] rfl (fun i hi => by
    obtain rfl : i = 0 := by omega
    rw [cell_of_row _ _ _ _ _ _ (heap_alloc_new w _)]
    rfl) dst hd
@[go_sem] theorem conv_new2 (src dst e : TypeId) (x y : Int) (hs : P.underlying src = some (.slice (P.elem src))) (he : P.underlying (P.elem src) = some (.int .u8)) (hd : P.underlying dst = some .string) :
    (convert src dst (.slice (some ⟨w.heap.size, 0, none⟩) 2 2)).run P (w.alloc (.cells #[.int .u8 x, .int .u8 y] e)) = .ok (.string (strOfNums [x, y])) (w.alloc (.cells #[.int .u8 x, .int .u8 y] e)) :=
  run_convert_bytes_arg (P := P) _ src _ hs he w.heap.size 0 2 2 [x, y] rfl (fun i hi => by
    rw [cell_of_row _ _ _ _ _ _ (heap_alloc_new w _)]
    rcases (show i = 0 ∨ i = 1 from by omega) with rfl | rfl <;> rfl) dst hd
@[go_sem] theorem conv_bytes (src dst : TypeId) (s : ByteArray) (hs : P.underlying src = some .string) (hd : P.underlying dst = some (.slice (P.elem dst))) (he : P.underlying (P.elem dst) = some (.int .u8)) :
    (convert src dst (.string s)).run P w = .ok (.slice (some ⟨w.heap.size, 0, none⟩) s.size (grownCap w s.size 0 (P.elem dst))) (Lib.bytesWorld w (P.elem dst) s) :=
  Lib.run_convert_string_bytes w src dst _ s hs hd he
end

@[go_sem] theorem strOfNums_size' (xs : List Int) : (strOfNums xs).size = xs.length := strOfNums_size xs
@[go_sem] theorem bs_size' (xs : List UInt8) : (bs xs).size = xs.length := rfl
@[go_sem] theorem bs_extract (l : List UInt8) (a b : Nat) : (bs l).extract a b = bs ((l.drop a).take (b - a)) := ByteArray.extract_mk l a b
theorem strOfNums_eq (xs : List Int) (ys : List UInt8) (h : xs.map (fun n => UInt8.ofNat n.toNat) = ys) : strOfNums xs = bs ys := by
  unfold strOfNums bs
  rw [h]

/-- the value v is, in w, a slice that reads as xs -/
def Sl {α : Type} (c : Cd α) (w : World) (v : Value) (xs : List α) : Prop :=
  ∃ A n cap, v = .slice A n cap ∧ n = xs.length ∧ n ≤ cap ∧ cap ≤ maxLen ∧ SlR c w (lt w.heap.size) A n xs
theorem Sl.below {α : Type} {c : Cd α} {w w' : World} {v : Value} {xs : List α} (h : Sl c w v xs) (hb : Below w.heap.size w w') : Sl c w' v xs := by
  obtain ⟨A, n, cap, h1, h2, h3, h4, h5⟩ := h
  exact ⟨A, n, cap, h1, h2, h3, h4, (h5.below hb).up hb.size⟩
theorem Sl.nil {α : Type} (c : Cd α) (w : World) : Sl c w (.slice none 0 0) ([] : List α) := ⟨none, 0, 0, rfl, rfl, Nat.le_refl _, Nat.zero_le _, SlR.nil _ _ _ _⟩
theorem OwnR.toSl {α : Type} {c : Cd α} {w : World} {base : Nat} {e : TypeId} {v : Value} {xs : List α} (h : OwnR c w base e v xs) : Sl c w v xs := h.sl

/-- a byte's cell -/
abbrev bv (x : UInt8) : Value := Value.int .u8 (x.toNat : Int)
theorem own1 {w : World} {B : Nat} {e : TypeId} {v : Value} {n : Nat} {xs : List Value} {ys : List UInt8} (h : w.ownsRow B e 1 v n xs) (he : xs = ys.map bv) : w.ownsRow B e 1 v ys.length (ys.map bv) := by
  subst he
  have hn : ys.length = n := by have := h.1; simpa using this
  rw [hn]
  exact h
theorem byteCells_bv (s : ByteArray) : byteCells s = s.data.toList.map bv := rfl
theorem byte_lo (n : Nat) : Value.int .u8 ((n : Int) % 256) = bv (UInt8.ofNat n) := by
  exact congrArg (Value.int .u8) (by rw [UInt8.toNat_ofNat']; omega)
theorem byte_hi (n : Nat) : Value.int .u8 ((n : Int) / 256 % 256) = bv (UInt8.ofNat (n / 256)) := by
  exact congrArg (Value.int .u8) (by rw [UInt8.toNat_ofNat']; omega)

theorem byte_hi' (n : Nat) (h : n < 65536) : Value.int .u8 ((n : Int) / 256) = bv (UInt8.ofNat (n / 256)) := by
  exact congrArg (Value.int .u8) (by rw [UInt8.toNat_ofNat']; omega)

/-- []byte(s): new memory that reads as s -/
theorem bytesWorld_below (w : World) (e : TypeId) (s : ByteArray) : Below w.heap.size w (Lib.bytesWorld w e s) :=
  ⟨rfl, rfl, rfl, by rw [Lib.bytesWorld_size]; omega, fun k hk => Lib.bytesWorld_at_old w e s k hk⟩
theorem bytesWorld_sl (w : World) (e : TypeId) (xs : List UInt8) (h : xs.length ≤ maxLen) : Sl cByte (Lib.bytesWorld w e (bs xs)) (.slice (some ⟨w.heap.size, 0, none⟩) (bs xs).size (grownCap w (bs xs).size 0 e)) xs := by
  refine ⟨_, _, _, rfl, rfl, grownCap_ge _ _ _ _, grownCap_le_maxLen _ _ _ _ h, rfl, fun hn => ⟨_, _, rfl, by rw [Lib.bytesWorld_size]; unfold lt; omega, fun i x hi => ⟨[.int .u8 (x.toNat : Int)], fun j u hu => ?_, rfl⟩⟩⟩
  cases j with
  | succ j => simp at hu
  | zero =>
    simp at hu
    subst hu
    have hl : i < xs.length := (List.getElem?_eq_some_iff.1 hi).1
    have := Lib.bytesWorld_cell w e (bs xs) i hl
    simp only [cByte, Nat.mul_one, Nat.zero_add, Nat.add_zero]
    rw [this, bs_data, List.getD, hi]
    rfl

set_option maxHeartbeats 400000 in
theorem sameBytes_any (w : World) (v v' : Value) (xs : List UInt8) (h : Sl cByte w v xs) (h' : Sl cByte w v' xs) :
    Calls Try.prog 17 #[v, v'] w fun e w' => e = .returned (.bool true) ∧ w = w' := by
  obtain ⟨A, n, c, rfl, hn, _, _, hs⟩ := h
  obtain ⟨A', n', c', rfl, hn', _, _, hs'⟩ := h'
  have c1 := run_string_of_bytes (P := Try.prog) w 24 5 Try.underlying24 Try.underlying5 (c := c) hs
  have c2 := run_string_of_bytes (P := Try.prog) w 24 5 Try.underlying24 Try.underlying5 (c := c') hs'
  clear hs hs' hn hn'
  go_enter Try.func17, Try.ntmps17
  go_wp2
  go_ret
  exact ⟨by simp, rfl⟩

theorem byte_of (d : Nat) : UInt8.ofNat ((d : Int) % 256).toNat = UInt8.ofNat d := by
  apply UInt8.toNat_inj.1
  rw [UInt8.toNat_ofNat', UInt8.toNat_ofNat']
  omega
/-! ### big: a number's bytes, the highest first -/
def bigL (m : Nat) : Nat → List UInt8
  | 0 => []
  | k + 1 => UInt8.ofNat (m / 256 ^ k) :: bigL m k
theorem bigL_len (m k : Nat) : (bigL m k).length = k := by
  induction k with
  | zero => rfl
  | succ k ih => simp [bigL, ih]

set_option maxHeartbeats 400000 in
theorem big_any (m k : Nat) (w : World) (hm : m < 18446744073709551616) (hk : k ≤ 8) :
    Calls Try.prog 45 #[.int .u64 (m : Int), .int .i64 (k : Int)] w fun e w' => e = .returned (.string (bs (bigL m k))) ∧ Below w.heap.size w w' := by
  go_enter Try.func45, Try.ntmps45
  go_wp2
  go_loopw [0, 5, 7] (fun n s i wr => ∃ j : Nat, j ≤ k ∧ i = .int .i64 j ∧ n = .int .u64 ((m / 256 ^ j : Nat) : Int) ∧ s = .string (bs (bigL m j)) ∧ Below w.heap.size w wr) (fun _ _ i _ => k - (intOf i).toNat)
  case atStart => exact ⟨0, Nat.zero_le _, rfl, by simp, rfl, Below.refl _ _⟩
  case round =>
    obtain ⟨j, hj, rfl, rfl, rfl, hb⟩ := hrel
    have hbs := bs_size (bigL m j)
    rw [bigL_len] at hbs
    by_cases hlt : j < k
    · have hd : m / 256 ^ j < 18446744073709551616 := Nat.lt_of_le_of_lt (Nat.div_le_self _ _) hm
      have hnext : m / 256 ^ (j + 1) = m / 256 ^ j / 256 := by rw [Nat.pow_succ, Nat.div_div_eq_div_mul]
      have HN := Lib.hid hnext
      have HB := Lib.hid (show bigL m (j + 1) = UInt8.ofNat (m / 256 ^ j) :: bigL m j from rfl)
      clear hnext
      generalize m / 256 ^ j = d at HN HB hd ⊢
      generalize hq : bs (bigL m j) = q at hbs ⊢
      have HQ := Lib.hid hq
      clear hq
      have hq8 : q.size ≤ 8 := by omega
      clear hbs
      go_wp2
      go_roundw
      case rel => exact ⟨j + 1, by omega, by go_num, congrArg (Value.int .u64) (by rw [HN.out]; omega), by rw [HB.out, ← HQ.out, strOfNums_eq _ [UInt8.ofNat d] (by simp [byte_of d]), bs_append]; rfl, hb.alloc hb.size _⟩
      case measure => simp [intOf]; omega
    · obtain rfl : j = k := by omega
      go_wp2
      go_ret
      exact ⟨rfl, hb⟩
end Go.Proofs.Ytbpibblidokhfaa
