/- The walk of LexShows: it returns true, and nothing that was there is turned. -/
import Derived.Test.YthnadkafegmacaaDoorAbEnc
import Derived.Test.YthnadkafegmacaaDoorEncT
import Derived.Test.YthnadkafegmacaaDoorTYxH
namespace Go.Proofs.YthnadkafegmacaaDoor
open Go.ChangeShapes Go.WideShapes Go.ChangeAt Go.RowKit Go.Deep Go.Proofs.YthnadkafegmacaaDoor.Ab

theorem encToks : Enc (cSlice cTok) (fun l => [E.sl ((l.map tOf).map eTok)]) :=
  (enc_slice encTok).of fun {_ _ _ x} _ => by rw [List.map_map]; rfl
theorem fitTok {w : World} {S : Nat → Prop} {cs : List Value} {x : Int × ByteArray × Int × Int × Unit} (h : cTok.rel w S cs x) : (tOf x).fit := by
  have hl := lenTok h
  obtain ⟨_, _, rfl, _, _, _, rfl, _, _, _, rfl, ⟨_, h3⟩, _⟩ := h
  exact ⟨hl, Int.lt_of_le_of_lt (wf_i64 h3).2 (by decide)⟩
theorem fitToks {w : World} {S : Nat → Prop} {cs : List Value} {l : List (Int × ByteArray × Int × Int × Unit)} (h : (cSlice cTok).rel w S cs l) : ∀ t ∈ l.map tOf, t.fit := by
  intro t ht
  obtain ⟨y, hy, rfl⟩ := List.mem_map.1 ht
  exact slice_all fitTok h y hy
theorem lenToks {w : World} {S : Nat → Prop} {cs : List Value} {l : List (Int × ByteArray × Int × Int × Unit)} (h : (cSlice cTok).rel w S cs l) : (l.map tOf).length ≤ maxLen := by
  rw [List.length_map]
  exact slice_len h
theorem law_trueK {P : Program} {K : World → Prop} {f : Nat} {gs : List (Nat × List E)} {ds : List D} {vs : Array Value} (h : FnK P K f gs ds (.v (.bool true))) {V : World} (hk : K V) (hg : ∀ x ∈ gs, RepD p0 (CI V anyI) V (.one (.eptr x.2)) (.pointer (some ⟨x.1, 0, none⟩))) (ha : RepAs (CI V anyI) V ds vs.toList) : Calls P f vs V fun e W' => e = .returned (.bool true) ∧ Below V.heap.size V W' := by
  refine (h.2 V vs anyI hk hg ha).mono ?_
  rintro e w' ⟨v, rfl, hb, hv⟩
  refine ⟨?_, hb⟩
  have hv : RepE _ (.v (.bool true)) v := hv
  cases hv
  rfl
theorem walkLexShows (W : World) (A0 : Option Addr) (n0 c0 : Nat) (a0 : (List (Int × (ByteArray × (Int × (Int × Unit)))))) (h0 : (cSlice (cStruct (cCons (cInt .i64) (cCons cStr (cCons (cInt .i64) (cCons (cInt .u64) cEnd)))))).rel W (lt W.heap.size) (.slice A0 n0 c0 : Value).cells.toList a0) (hk : KT W) (hG : ∀ x ∈ gL, RepD p0 (CI W anyI) W (.one (.eptr x.2)) (.pointer (some ⟨x.1, 0, none⟩))) :
    Calls Tryd.prog 7 #[.slice A0 n0 c0] W fun e W' => e = .returned (.bool true) ∧ Below W.heap.size W W' := by
  refine law_trueK (lexShows_fn (a0.map tOf) (fitToks h0) (lenToks h0)) hk hG ⟨rfl, fun i d v hd hv => ?_⟩
  match i, hd, hv with
  | 0, hd, hv => cases Option.some.inj hd; cases Option.some.inj hv; exact arg_one encToks h0
  | n + 1, hd, hv => cases hd

end Go.Proofs.YthnadkafegmacaaDoor
