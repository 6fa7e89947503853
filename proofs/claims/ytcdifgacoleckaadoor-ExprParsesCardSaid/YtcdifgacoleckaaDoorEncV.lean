/- Values as arguments. No condition. -/
import Derived.Test.YtcdifgacoleckaaDoorAbEnc
import Derived.Test.YtcdifgacoleckaaDoorTVal
namespace Go.Proofs.YtcdifgacoleckaaDoor
open Go Go.RowKit Go.Proofs.YtcdifgacoleckaaDoor.Ab

def vOf (x : Int × Int × Int × ByteArray × Unit) : Val := ⟨x.1, x.2.1, BitVec.ofInt 64 x.2.2.1, x.2.2.2.1.data.toList⟩
abbrev cVal : Cd (Int × Int × Int × ByteArray × Unit) := cStruct (cCons (cInt .i64) (cCons (cInt .i64) (cCons (cInt .u64) (cCons cStr cEnd))))
theorem encT : Enc cStr (fun x => [eT x.data.toList]) := enc_str
theorem relVal {w : World} {S : Nat → Prop} {cs : List Value} {x : Int × Int × Int × ByteArray × Unit} (h : cVal.rel w S cs x) : (vOf x).ok ∧ (0 ≤ x.2.2.1 ∧ x.2.2.1 < 18446744073709551616) ∧ x.2.2.2.1.size ≤ maxLen := by
  obtain ⟨_, _, rfl, ⟨_, h1⟩, _, _, rfl, ⟨_, h2⟩, _, _, rfl, ⟨_, h3⟩, _, _, rfl, ⟨_, h4⟩, _⟩ := h
  exact ⟨⟨wf_i64 h1, wf_i64 h2⟩, wf_u64 h3, h4⟩
theorem encVal : Enc cVal (fun x => eVal (vOf x)) :=
  (enc_struct (enc_cons (enc_int .i64) (enc_cons (enc_int .i64) (enc_cons (enc_int .u64) (enc_cons enc_str enc_end))))).of fun {w S cs x} h => by
    obtain ⟨_, ⟨h3, h4⟩, _⟩ := relVal h
    show [E.v (.int .i64 x.1), E.v (.int .i64 x.2.1), E.v (.int .u64 x.2.2.1), E.v (.string x.2.2.2.1)] = [E.v (.int .i64 x.1), E.v (.int .i64 x.2.1), E.v (.int .u64 ((BitVec.ofInt 64 x.2.2.1).toNat : Int)), E.v (.string x.2.2.2.1)]
    rw [show ((BitVec.ofInt 64 x.2.2.1).toNat : Int) = x.2.2.1 by rw [BitVec.toNat_ofInt]; omega]
theorem okVal {w : World} {S : Nat → Prop} {cs : List Value} {x : Int × Int × Int × ByteArray × Unit} (h : cVal.rel w S cs x) : (vOf x).ok := (relVal h).1
theorem fitVal {w : World} {S : Nat → Prop} {cs : List Value} {x : Int × Int × Int × ByteArray × Unit} (h : cVal.rel w S cs x) : (vOf x).fit := ⟨(relVal h).1, (relVal h).2.2⟩
end Go.Proofs.YtcdifgacoleckaaDoor
