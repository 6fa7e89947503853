/- Data as the program has them: bytes, lists of bytes. No condition. -/
import Derived.Test.YtcdifgacoleckaaDoorAbD
namespace Go.Proofs.YtcdifgacoleckaaDoor.Ab
open Go Go.RowKit
theorem condT_false {a b : Bool} (h : (bif a then true else b) = false) : a = false ∧ b = false := by cases a <;> first | exact ⟨rfl, h⟩ | cases h
theorem condF_true {a b : Bool} (h : (bif a then b else false) = true) : a = true ∧ b = true := by cases a <;> first | exact ⟨rfl, h⟩ | cases h
theorem condT_ff {a b : Bool} : ((bif a then true else b) = false) = (a = false ∧ b = false) := propext ⟨condT_false, fun h => by rw [h.1, h.2]; rfl⟩
theorem condF_tt {a b : Bool} : ((bif a then b else false) = true) = (a = true ∧ b = true) := propext ⟨condF_true, fun h => by rw [h.1, h.2]; rfl⟩
theorem condT_tt {a b : Bool} : ((bif a then true else b) = true) = (a = true ∨ b = true) := by cases a <;> simp
theorem condF_ff {a b : Bool} : ((bif a then b else false) = false) = (a = false ∨ b = false) := by cases a <;> simp
theorem notE_t {a : Bool} : ((!a) = true) = (a = false) := by cases a <;> simp
theorem notE_f {a : Bool} : ((!a) = false) = (a = true) := by cases a <;> simp
def eB (b : UInt8) : E := .v (.int .u8 (b.toNat : Int))
def eI (n : Int) : E := .v (.int .i64 n)
def eCells (l : List UInt8) : List (List E) := l.map fun b => [eB b]
def eBytes (l : List UInt8) : E := .sl (eCells l)
def eLists (l : List (List UInt8)) : E := .sl (l.map fun p => [eBytes p])
theorem eCells_length (l : List UInt8) : (eCells l).length = l.length := by simp [eCells]
theorem eCells_getD (l : List UInt8) {i : Nat} (h : i < l.length) : (eCells l).getD i [] = [eB (l.getD i 0)] := by
  simp [eCells, h]
theorem eCells_drop (l : List UInt8) (i : Nat) : (eCells l).drop i = eCells (l.drop i) := by simp [eCells]
theorem eCells_take (l : List UInt8) (i : Nat) : (eCells l).take i = eCells (l.take i) := by simp [eCells]
theorem eCells_append (l r : List UInt8) : eCells l ++ eCells r = eCells (l ++ r) := by simp [eCells]
theorem eCells_len1 (l : List UInt8) : ∀ cs ∈ eCells l, cs.length = 1 := by
  intro cs h
  obtain ⟨b, _, rfl⟩ := List.mem_map.1 h
  rfl
theorem eCells_isByte (l : List UInt8) : ∀ cs ∈ eCells l, isByte cs := by
  intro cs h
  obtain ⟨b, _, rfl⟩ := List.mem_map.1 h
  exact ⟨b, rfl⟩
theorem bytesOf_eCells (l : List UInt8) : bytesOf (eCells l) = ⟨l.toArray⟩ := by
  unfold bytesOf eCells
  congr 1
  rw [List.map_map]
  congr 1
  exact List.map_id'' (fun b => by simp [eB, E.int]) l
theorem rdB (l : List UInt8) (i : Nat) (h : i < l.length) : (((eCells l).getD i []).getD 0 E.dflt).int = ((l.getD i 0).toNat : Int) := by
  rw [eCells_getD l h]
  rfl
theorem rdL (l : List UInt8) (i : Nat) (h : i < l.length) : ((eCells l).getD i []).length = 1 := by
  rw [eCells_getD l h]
  rfl
theorem rdA (l : List UInt8) (i : Nat) (h : i < l.length) : D0.isA (.int .u8) ((Cs.es ((eCells l).getD i [])).at 0) := by
  rw [eCells_getD l h]
  rfl
theorem rdC (l : List UInt8) (i : Nat) (h : i < l.length) : 0 < (Cs.es ((eCells l).getD i [])).len := by
  rw [eCells_getD l h]
  exact Nat.zero_lt_one
theorem wrapB (b : UInt8) : IntKind.i64.wrap (b.toNat : Int) = b.toNat := by
  have := b.toNat_lt
  unfold IntKind.wrap
  simp [IntKind.bits, IntKind.signed]
  omega
theorem wrap64_id {n : Int} (h0 : -9223372036854775808 ≤ n) (h1 : n ≤ 9223372036854775807) : IntKind.i64.wrap n = n := by
  unfold IntKind.wrap
  simp [IntKind.bits, IntKind.signed]
  omega
theorem sl_from (l : List UInt8) (k : Nat) (m : Int) (hm : m = (l.length : Int)) : List.take (m.toNat - Int.toNat (k : Int)) (List.drop (Int.toNat (k : Int)) (eCells l)) = eCells (l.drop k) := by
  subst hm
  rw [Int.toNat_natCast, Int.toNat_natCast, eCells_drop, List.take_of_length_le (by rw [eCells_length, List.length_drop]; omega)]
theorem sl_to (l : List UInt8) (k : Nat) : List.take (Int.toNat (k : Int) - Int.toNat 0) (List.drop (Int.toNat 0) (eCells l)) = eCells (l.take k) := by
  rw [Int.toNat_natCast, show Int.toNat 0 = 0 from rfl, List.drop_zero, Nat.sub_zero, eCells_take]
/-- four bytes, the great one first, as the program joins them -/
theorem or_shift (a b k : Nat) (ha : a < 2 ^ 32) (hb : b < 2 ^ k) (hk : k ≤ 24) : (IntKind.i64.wrap (((BitVec.ofInt 64 ((a : Int) * 2 ^ k)) ||| (BitVec.ofInt 64 (b : Int))).toNat : Int)) = ((a * 2 ^ k + b : Nat) : Int) := by
  have hp : 2 ^ k ≤ 2 ^ 24 := Nat.pow_le_pow_right (by omega) hk
  have h1 : a * 2 ^ k ≤ a * 2 ^ 24 := Nat.mul_le_mul_left _ hp
  have e1 : (BitVec.ofInt 64 ((a : Int) * 2 ^ k)).toNat = a * 2 ^ k := by
    have : ((a : Int) * 2 ^ k) = ((a * 2 ^ k : Nat) : Int) := by push_cast; rfl
    rw [this, BitVec.toNat_ofInt]
    omega
  have e2 : (BitVec.ofInt 64 (b : Int)).toNat = b := by
    rw [BitVec.toNat_ofInt]
    omega
  rw [BitVec.toNat_or, e1, e2]
  have e3 : a * 2 ^ k ||| b = a * 2 ^ k + b := by
    rw [← Nat.shiftLeft_eq, Nat.shiftLeft_add_eq_or_of_lt hb]
  rw [e3]
  exact wrap64_id (by omega) (by omega)
theorem memOk_row {ad : List Nat} {s s' : St} {id v v' z pub : Nat} {xs xs' : List (List E)} {r : List (Nat × Blk)} (h1 : inB ad id = false) (h2 : s.mem id = some ⟨v, .row z xs, pub⟩) (h3 : xs = xs') (hr : memOk ad s s' r) :
    memOk ad s s' ((id, ⟨v', .row z xs', pub⟩) :: r) := by
  refine ⟨?_, hr⟩
  unfold BSim
  rw [h1, h2]
  exact ⟨⟨rfl, h3⟩, rfl⟩
theorem memOk_box {ad : List Nat} {s s' : St} {id v v' pub : Nat} {c c' : Cs} {r : List (Nat × Blk)} (h1 : inB ad id = false) (h2 : s.mem id = some ⟨v, .box c, pub⟩) (h3 : CsSim ad s.mem s'.mem c c') (hr : memOk ad s s' r) :
    memOk ad s s' ((id, ⟨v', .box c', pub⟩) :: r) := by
  refine ⟨?_, hr⟩
  unfold BSim
  rw [h1, h2]
  exact ⟨h3, rfl⟩
theorem memOk_raw {ad : List Nat} {s s' : St} {id v v' pub : Nat} {c c' : Raw} {r : List (Nat × Blk)} (h1 : inB ad id = false) (h2 : s.mem id = some ⟨v, .raw c, pub⟩) (h3 : c = c') (hr : memOk ad s s' r) :
    memOk ad s s' ((id, ⟨v', .raw c', pub⟩) :: r) := by
  refine ⟨?_, hr⟩
  unfold BSim
  rw [h1, h2]
  exact ⟨h3, rfl⟩
theorem memOk_new {ad : List Nat} {s s' : St} {id v' z : Nat} {r : List (Nat × Blk)} (h1 : inB ad id = true) (h2 : 0 < z) (hr : memOk ad s s' r) : memOk ad s s' ((id, ⟨v', .row z [], 0⟩) :: r) := by
  refine ⟨?_, hr⟩
  unfold BSim
  rw [h1]
  exact h2
/-- a string of bytes -/
def strB (l : List UInt8) : ByteArray := ⟨l.toArray⟩
theorem strB_size (l : List UInt8) : (strB l).size = l.length := by simp [strB, ByteArray.size]
theorem strB_list (l : List UInt8) : (strB l).data.toList = l := by simp [strB]
theorem strB_of (l : List UInt8) : bytesOf (eCells l) = strB l := bytesOf_eCells l
theorem strB_extract (l : List UInt8) (i j : Nat) : (strB l).extract i j = strB ((l.take j).drop i) := by
  unfold strB
  apply ByteArray.ext
  rw [ByteArray.data_extract]
  apply Array.ext'
  simp [List.extract_eq_take_drop, List.drop_take]
theorem strBytes_B (l : List UInt8) : strBytes (strB l) = eCells l := by
  unfold strBytes eCells eB
  rw [strB_list]
abbrev W64 (n : Int) : Int := IntKind.i64.wrap n
theorem or4 (x y z u : UInt8) : W64 ((BitVec.ofInt IntKind.i64.bits (W64 ((BitVec.ofInt IntKind.i64.bits (W64 ((BitVec.ofInt IntKind.i64.bits (W64 ((x.toNat : Int) * 2 ^ min (Int.toNat 24) IntKind.i64.bits)) ||| BitVec.ofInt IntKind.i64.bits (W64 ((y.toNat : Int) * 2 ^ min (Int.toNat 16) IntKind.i64.bits))).toNat : Int)) |||
      BitVec.ofInt IntKind.i64.bits (W64 ((z.toNat : Int) * 2 ^ min (Int.toNat 8) IntKind.i64.bits))).toNat : Int)) ||| BitVec.ofInt IntKind.i64.bits (u.toNat : Int)).toNat : Int) = ((x.toNat * 16777216 + y.toNat * 65536 + z.toNat * 256 + u.toNat : Nat) : Int) := by
  have hx := x.toNat_lt
  have hy := y.toNat_lt
  have hz := z.toNat_lt
  have hu := u.toNat_lt
  have b64 : IntKind.i64.bits = 64 := rfl
  have m24 : min (Int.toNat 24) 64 = 24 := rfl
  have m16 : min (Int.toNat 16) 64 = 16 := rfl
  have m8 : min (Int.toNat 8) 64 = 8 := rfl
  unfold W64
  rw [b64, m24, m16, m8]
  rw [wrap64_id (n := (x.toNat : Int) * 2 ^ 24) (by omega) (by omega), wrap64_id (n := (y.toNat : Int) * 2 ^ 16) (by omega) (by omega), wrap64_id (n := (z.toNat : Int) * 2 ^ 8) (by omega) (by omega)]
  have e1 := or_shift x.toNat (y.toNat * 2 ^ 16) 24 (by omega) (by omega) (by omega)
  rw [show ((y.toNat * 2 ^ 16 : Nat) : Int) = (y.toNat : Int) * 2 ^ 16 by omega] at e1
  rw [e1, show ((x.toNat * 2 ^ 24 + y.toNat * 2 ^ 16 : Nat) : Int) = ((x.toNat * 256 + y.toNat : Nat) : Int) * 2 ^ 16 by omega]
  have e2 := or_shift (x.toNat * 256 + y.toNat) (z.toNat * 2 ^ 8) 16 (by omega) (by omega) (by omega)
  rw [show ((z.toNat * 2 ^ 8 : Nat) : Int) = (z.toNat : Int) * 2 ^ 8 by omega] at e2
  rw [e2, show (((x.toNat * 256 + y.toNat) * 2 ^ 16 + z.toNat * 2 ^ 8 : Nat) : Int) = ((x.toNat * 65536 + y.toNat * 256 + z.toNat : Nat) : Int) * 2 ^ 8 by omega]
  have e3 := or_shift (x.toNat * 65536 + y.toNat * 256 + z.toNat) u.toNat 8 (by omega) (by omega) (by omega)
  rw [e3]
  omega
theorem byte_lt (b : UInt8) : b.toNat < 256 := b.toNat_lt
end Go.Proofs.YtcdifgacoleckaaDoor.Ab
