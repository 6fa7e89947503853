/- A number out of bytes: the walk of the reference's number; a part of a slice, as what it reads. No condition. -/
import Derived.Test.YtbpibblidokhfaaBytesW
namespace Go.Proofs.Ytbpibblidokhfaa
open Go.ChangeShapes Go.WideShapes Go.ChangeAt Go.RowKit Go.Deep

/-! ### a part of a slice -/
def cutA (A : Option Addr) (cap l s : Nat) : Option Addr := if cap = l then A else A.map (·.add (l * s))
theorem SlR.cut {α : Type} {c : Cd α} {w : World} {S : Nat → Prop} {A : Option Addr} {n cap : Nat} {xs : List α} (h : SlR c w S A n xs) (hc : n ≤ cap) (l m : Nat) (hl : l ≤ m) (hm : m ≤ n) :
    SlR c w S (cutA A cap l c.size) (m - l) ((xs.drop l).take (m - l)) := by
  have hlen := h.1
  refine ⟨by simp; omega, fun hn => ?_⟩
  obtain ⟨b, o, rfl, hb, hx⟩ := h.2 (by omega)
  unfold cutA
  rw [if_neg (by omega)]
  refine ⟨b, o + l * c.size, by rw [Option.map_some, Addr.add_lit], hb, fun i x hi => ?_⟩
  rw [List.getElem?_take] at hi
  split at hi
  · rw [List.getElem?_drop] at hi
    obtain ⟨cs, h1, h2⟩ := hx (l + i) x hi
    exact ⟨cs, by rw [Nat.add_assoc, ← Nat.add_mul]; exact h1, h2⟩
  · cases hi
theorem sizeOf_cells {P : Program} (w : World) (t : TypeId) (hs : (P.info? (P.elem t)).map (·.size) = some (P.cellsOf (P.elem t))) : (sizeOf (P.elem t)).run P w = .ok (P.cellsOf (P.elem t)) w := by
  cases hi : P.info? (P.elem t) with
  | none => rw [hi] at hs; cases hs
  | some i =>
    rw [hi] at hs
    simp only [Option.map_some, Option.some.injEq] at hs
    rw [← hs]
    simp [sizeOf, typeInfo, hi]
section
variable {P : Program} (w : World) (t : TypeId) (a : Option Addr) (len cap : Nat) (ht : P.underlying t = some (.slice (P.elem t))) (hs : (P.info? (P.elem t)).map (·.size) = some (P.cellsOf (P.elem t)))
include ht hs
@[go_sem high] theorem slice_lh (kl kh : IntKind) (l h : Int) (h0 : 0 ≤ l) (h1 : l ≤ h) (h2 : h ≤ cap) :
    (Instr.slice t (.slice a len cap) (some (.int kl l)) (some (.int kh h)) none).run P w = .ok (.slice (cutA a cap l.toNat (P.cellsOf (P.elem t))) (h.toNat - l.toNat) (cap - l.toNat)) w := by
  rw [run_slice_lh w t a len cap ht kl kh l h h0 h1 h2, sizeOf_cells w t hs]
  rfl
@[go_sem high] theorem slice_h (kh : IntKind) (h : Int) (h0 : 0 ≤ h) (h2 : h ≤ cap) :
    (Instr.slice t (.slice a len cap) none (some (.int kh h)) none).run P w = .ok (.slice (cutA a cap 0 (P.cellsOf (P.elem t))) h.toNat cap) w := by
  rw [run_slice_h w t a len cap ht kh h h0 h2, sizeOf_cells w t hs]
  rfl
@[go_sem high] theorem slice_l (kl : IntKind) (l : Int) (h0 : 0 ≤ l) (h1 : l ≤ len) :
    (Instr.slice t (.slice a len cap) (some (.int kl l)) none none).run P w = .ok (.slice (cutA a cap l.toNat (P.cellsOf (P.elem t))) (len - l.toNat) (cap - l.toNat)) w := by
  rw [run_slice_l w t a len cap ht kl l h0 h1, sizeOf_cells w t hs]
  rfl
end

@[go_sem] theorem cellsB : Try.prog.cellsOf 5 = 1 := by kernel_rfl
@[go_sem] theorem infoSizeB : (Try.prog.info? 5).map (·.size) = some 1 := by kernel_rfl

/-! ### number -/
theorem or_256 (a b : UInt8) : bits .or .i64 ((a.toNat : Int) * 256) (b.toNat : Int) = ((a.toNat * 256 + b.toNat : Nat) : Int) := by
  have ha := a.toNat_lt
  have hb := b.toNat_lt
  rw [bits_join .i64 63 (by decide) (fun n h0 h1 => IntWalk.i64_in n (by omega)) 8 _ _ (by omega) (by omega) (by omega) (by omega) (by omega) (by omega)]
  omega
def numL (l : List UInt8) : Nat := l.foldl (fun n x => n * 256 + x.toNat) 0
theorem numL_snoc (l : List UInt8) (x : UInt8) : numL (l ++ [x]) = numL l * 256 + x.toNat := by
  unfold numL
  rw [List.foldl_append]
  rfl
theorem numL_from (l : List UInt8) : ∀ a, l.foldl (fun n x => n * 256 + x.toNat) a < (a + 1) * 256 ^ l.length := by
  induction l with
  | nil => intro a; simp
  | cons x l ih =>
    intro a
    have hx := x.toNat_lt
    refine Nat.lt_of_lt_of_le (ih _) ?_
    rw [List.length_cons, Nat.pow_succ, Nat.mul_comm (256 ^ l.length) 256, ← Nat.mul_assoc]
    exact Nat.mul_le_mul_right _ (by show a * 256 + x.toNat + 1 ≤ _; omega)
theorem numL_lt (l : List UInt8) : numL l < 256 ^ l.length := by
  have := numL_from l 0
  simpa [numL] using this

theorem numL2_lt (l : List UInt8) : numL (l.take 2) < 65536 := by
  have h := numL_lt (l.take 2)
  have : 256 ^ (l.take 2).length ≤ 256 ^ 2 := Nat.pow_le_pow_right (by decide) (by rw [List.length_take]; omega)
  omega

set_option maxHeartbeats 400000 in
theorem number_any (l : List UInt8) (w : World) (hl : l.length ≤ 8) :
    Calls Try.prog 50 #[.string (bs l)] w fun e w' => e = .returned (.int .u64 (numL l : Nat)) ∧ w = w' := by
  have hsz := bs_size l
  go_enter Try.func50, Try.ntmps50
  go_wp2
  go_loop [3, 4] (fun n i => ∃ k : Nat, k ≤ l.length ∧ i = .int .i64 k ∧ n = .int .u64 (numL (l.take k) : Nat)) (fun _ i => l.length - (intOf i).toNat)
  case atStart => exact ⟨0, Nat.zero_le _, rfl, rfl⟩
  case round =>
    obtain ⟨k, hk, rfl, rfl⟩ := hrel
    by_cases hlt : k < l.length
    · have hb := numL_lt (l.take (k + 1))
      have hs := numL_snoc (l.take k) l[k]
      rw [show l.take k ++ [l[k]] = l.take (k + 1) from by rw [List.take_add_one, List.getElem?_eq_getElem hlt]; rfl] at hs
      have hlt8 : 256 ^ (l.take (k + 1)).length ≤ 18446744073709551616 := by
        have : 256 ^ (l.take (k + 1)).length ≤ 256 ^ 8 := Nat.pow_le_pow_right (by decide) (by rw [List.length_take]; omega)
        omega
      have hget : (bs l)[k]'(by rw [bs_size]; exact hlt) = l[k] := rfl
      have hx := (l[k]).toNat_lt
      have hlt2 : numL (l.take k) * 256 + (l[k]).toNat < 18446744073709551616 := by omega
      have HS := Lib.hid hs
      have HG := Lib.hid hget
      clear hs hb hlt8 hget
      generalize numL (l.take k) = a at HS hlt2 ⊢
      go_wp2
      go_round
      case rel => exact ⟨k + 1, by omega, by go_num, congrArg (Value.int .u64) (by rw [HG.out, IntWalk.u64_in ((l[k]).toNat : Int) (by omega), IntWalk.u64_in _ (by omega), HS.out]; omega)⟩
      case measure => simp [intOf]; omega
    · obtain rfl : k = l.length := by omega
      have he : l.take l.length = l := List.take_length
      rw [he]
      clear he
      go_wp2
      go_ret
      exact ⟨rfl, rfl⟩
end Go.Proofs.Ytbpibblidokhfaa
