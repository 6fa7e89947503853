/- Tokens as arguments. No condition. -/
import Derived.Test.YtcdifgacoleckaaDoorEncV
import Derived.Test.YtcdifgacoleckaaDoorTLexA
namespace Go.Proofs.YtcdifgacoleckaaDoor
open Go Go.RowKit Go.Proofs.YtcdifgacoleckaaDoor.Ab

def tOf (x : Int × ByteArray × Int × Int × Unit) : Tok := ⟨x.1, x.2.1.data.toList, x.2.2.1, BitVec.ofInt 64 x.2.2.2.1⟩
abbrev cTok : Cd (Int × ByteArray × Int × Int × Unit) := cStruct (cCons (cInt .i64) (cCons cStr (cCons (cInt .i64) (cCons (cInt .u64) cEnd))))
theorem relTok {w : World} {S : Nat → Prop} {cs : List Value} {x : Int × ByteArray × Int × Int × Unit} (h : cTok.rel w S cs x) : x.2.1.size ≤ maxLen ∧ 0 ≤ x.2.2.2.1 ∧ x.2.2.2.1 < 18446744073709551616 := by
  obtain ⟨_, _, rfl, ⟨_, h1⟩, _, _, rfl, ⟨_, h2⟩, _, _, rfl, ⟨_, h3⟩, _, _, rfl, ⟨_, h4⟩, _⟩ := h
  exact ⟨h2, wf_u64 h4⟩
theorem encTok : Enc cTok (fun x => eTok (tOf x)) :=
  (enc_struct (enc_cons (enc_int .i64) (enc_cons enc_str (enc_cons (enc_int .i64) (enc_cons (enc_int .u64) enc_end))))).of fun {w S cs x} h => by
    obtain ⟨_, h3, h4⟩ := relTok h
    show [E.v (.int .i64 x.1), E.v (.string x.2.1), E.v (.int .i64 x.2.2.1), E.v (.int .u64 x.2.2.2.1)] = [E.v (.int .i64 x.1), E.v (.string x.2.1), E.v (.int .i64 x.2.2.1), E.v (.int .u64 ((BitVec.ofInt 64 x.2.2.2.1).toNat : Int))]
    rw [show ((BitVec.ofInt 64 x.2.2.2.1).toNat : Int) = x.2.2.2.1 by rw [BitVec.toNat_ofInt]; omega]
theorem lenTok {w : World} {S : Nat → Prop} {cs : List Value} {x : Int × ByteArray × Int × Int × Unit} (h : cTok.rel w S cs x) : (tOf x).t.length ≤ maxLen := (relTok h).1
theorem lenStr {w : World} {S : Nat → Prop} {cs : List Value} {x : ByteArray} (h : cStr.rel w S cs x) : x.data.toList.length ≤ maxLen := by
  obtain ⟨_, h⟩ := h
  exact h
end Go.Proofs.YtcdifgacoleckaaDoor
