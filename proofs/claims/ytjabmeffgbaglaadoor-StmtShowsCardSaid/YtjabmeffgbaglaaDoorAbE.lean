/- Data as the program has them: bytes, lists of bytes. No condition. -/
import Derived.Test.YtjabmeffgbaglaaDoorAbD
namespace Go.Proofs.YtjabmeffgbaglaaDoor.Ab
open Go Go.RowKit
theorem condT_false {a b : Bool} (h : (bif a then true else b) = false) : a = false ∧ b = false := by cases a <;> first | exact ⟨rfl, h⟩ | cases h
theorem condF_true {a b : Bool} (h : (bif a then b else false) = true) : a = true ∧ b = true := by cases a <;> first | exact ⟨rfl, h⟩ | cases h
theorem condT_ff {a b : Bool} : ((bif a then true else b) = false) = (a = false ∧ b = false) := propext ⟨condT_false, fun h => by rw [h.1, h.2]; rfl⟩
theorem condF_tt {a b : Bool} : ((bif a then b else false) = true) = (a = true ∧ b = true) := propext ⟨condF_true, fun h => by rw [h.1, h.2]; rfl⟩
theorem condT_tt {a b : Bool} : ((bif a then true else b) = true) = (a = true ∨ b = true) := by cases a <;> simp
theorem condF_ff {a b : Bool} : ((bif a then b else false) = false) = (a = false ∨ b = false) := by cases a <;> simp
theorem notE_t {a : Bool} : ((!a) = true) = (a = false) := by cases a <;> simp
theorem notE_f {a : Bool} : ((!a) = false) = (a = true) := by cases a <;> simp
def eB (b : UInt8) : E := .v (.int .u8 (b.toNat : Int))
def eI (n : Int) : E := .v (.int .i64 n)
def eCells (l : List UInt8) : List (List E) := l.map fun b => [eB b]
theorem eCells_len1 (l : List UInt8) : ∀ cs ∈ eCells l, cs.length = 1 := by
 intro cs h
 obtain ⟨b, _, rfl⟩ := List.mem_map.1 h
 rfl
theorem eCells_isByte (l : List UInt8) : ∀ cs ∈ eCells l, isByte cs := by
 intro cs h
 obtain ⟨b, _, rfl⟩ := List.mem_map.1 h
 exact ⟨b, rfl⟩
theorem wrap64_id {n : Int} (h0 : -9223372036854775808 ≤ n) (h1 : n ≤ 9223372036854775807) : IntKind.i64.wrap n = n := by
 unfold IntKind.wrap
 simp [IntKind.bits, IntKind.signed]
 omega
theorem memOk_row {ad : List Nat} {s s' : St} {id v v' z pub : Nat} {xs xs' : List (List E)} {r : List (Nat × Blk)} (h1 : inB ad id = false) (h2 : s.mem id = some ⟨v, .row z xs, pub⟩) (h3 : xs = xs') (hr : memOk ad s s' r) :
  memOk ad s s' ((id, ⟨v', .row z xs', pub⟩) :: r) := by
 refine ⟨?_, hr⟩
 unfold BSim
 rw [h1, h2]
 exact ⟨⟨rfl, h3⟩, rfl⟩
theorem memOk_box {ad : List Nat} {s s' : St} {id v v' pub : Nat} {c c' : Cs} {r : List (Nat × Blk)} (h1 : inB ad id = false) (h2 : s.mem id = some ⟨v, .box c, pub⟩) (h3 : CsSim ad s.mem s'.mem c c') (hr : memOk ad s s' r) :
  memOk ad s s' ((id, ⟨v', .box c', pub⟩) :: r) := by
 refine ⟨?_, hr⟩
 unfold BSim
 rw [h1, h2]
 exact ⟨h3, rfl⟩
theorem memOk_new {ad : List Nat} {s s' : St} {id v' z : Nat} {r : List (Nat × Blk)} (h1 : inB ad id = true) (h2 : 0 < z) (hr : memOk ad s s' r) : memOk ad s s' ((id, ⟨v', .row z [], 0⟩) :: r) := by
 refine ⟨?_, hr⟩
 unfold BSim
 rw [h1]
 exact h2
def strB (l : List UInt8) : ByteArray := ⟨l.toArray⟩
theorem strB_size (l : List UInt8) : (strB l).size = l.length := by simp [strB, ByteArray.size]
theorem strB_list (l : List UInt8) : (strB l).data.toList = l := by simp [strB]
theorem strB_extract (l : List UInt8) (i j : Nat) : (strB l).extract i j = strB ((l.take j).drop i) := by
 unfold strB
 apply ByteArray.ext
 rw [ByteArray.data_extract]
 apply Array.ext'
 simp [List.extract_eq_take_drop, List.drop_take]
end Go.Proofs.YtjabmeffgbaglaaDoor.Ab
