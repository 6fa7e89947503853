/- Disks as arguments. No condition. -/
import Derived.Test.YtphaholcndhonaaAbEnc
import Derived.Test.YtphaholcndhonaaTDk
namespace Go.Proofs.Ytphaholcndhonaa
open Go Go.RowKit Go.Proofs.Ytphaholcndhonaa.Ab

theorem flat1 {α : Type} (f : α → E) : ∀ l : List α, (l.map fun x => [f x]).flatten = l.map f
  | [] => rfl
  | a :: l => by rw [List.map_cons, List.flatten_cons, flat1 f l]; rfl
theorem encSec : Enc (cArr 32 cByte) (fun x => eSec x) :=
  (enc_arr 32 enc_byte).of fun _ => flat1 eB _
theorem lenSec {w : World} {S : Nat → Prop} {cs : List Value} {x : List UInt8} (h : (cArr 32 cByte).rel w S cs x) : x.length = 32 :=
  (arr_all (Q := fun _ => True) (fun _ => trivial) h).1
abbrev XPut := Int × List UInt8 × Unit
def ptOf (x : XPut) : Dput := ⟨x.1, x.2.1⟩
abbrev cPut : Cd XPut := cStruct (cCons (cInt .i64) (cCons (cArr 32 cByte) cEnd))
theorem encPut : Enc cPut (fun x => ePut (ptOf x)) :=
  (enc_struct (enc_cons (enc_int .i64) (enc_cons encSec enc_end))).of fun {_ _ _ x} _ => by
    unfold ePut ptOf
    simp only [List.append_nil, List.singleton_append]
    rfl
abbrev XDisk := List (List UInt8) × List XPut × Unit
def dkOf (x : XDisk) : Dsk := ⟨x.1, x.2.1.map ptOf⟩
abbrev cDisk : Cd XDisk := cStruct (cCons (cSlice (cArr 32 cByte)) (cCons (cSlice cPut) cEnd))
theorem encDisk : Enc cDisk (fun x => eDsk (dkOf x)) :=
  (enc_struct (enc_cons (enc_slice encSec) (enc_cons (enc_slice encPut) enc_end))).of fun {_ _ _ x} _ => by
    unfold eDsk dkOf
    rw [List.map_map]
    rfl
theorem okDisk {w : World} {S : Nat → Prop} {cs : List Value} {x : XDisk} (h : cDisk.rel w S cs x) : (dkOf x).ok := by
  obtain ⟨_, _, rfl, h1, _, _, rfl, h2, _⟩ := h
  have h3 : ∀ s ∈ x.1, s.length = 32 := slice_all (Q := fun s : List UInt8 => s.length = 32) (fun h => lenSec h) h1
  refine ⟨h3, fun p hp => ?_⟩
  obtain ⟨y, hy, rfl⟩ := List.mem_map.1 hp
  refine slice_all (Q := fun y => y.2.1.length = 32) (fun {_ _ _ _} h => ?_) h2 y hy
  obtain ⟨_, _, rfl, _, _, _, rfl, h3, _⟩ := h
  exact lenSec h3
theorem okWideArr {P : Program} {w : World} {r : Reach} {base : Nat} {t : TypeId} {n : Nat} {e : TypeId} {v : Value} (ht : P.underlying t = some (.array n e)) (h : Value.okWide P w r base t v) : ∃ xs : Array Value, v = .agg xs := by
  simp only [Value.okWide, ht] at h
  obtain ⟨cs, h1, _⟩ := h
  exact ⟨cs, h1⟩
end Go.Proofs.Ytphaholcndhonaa
