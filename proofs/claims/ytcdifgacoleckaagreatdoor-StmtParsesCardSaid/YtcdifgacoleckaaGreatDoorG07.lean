/- Part of the proof: steps of the program over abstract states. No condition. -/
import Derived.Test.YtcdifgacoleckaaGreatDoorG06
import Derived.Test.YtcdifgacoleckaaGreatDoorG04
import Derived.Test.YtcdifgacoleckaaGreatDoorG05
set_option linter.unusedVariables false
set_option linter.unusedSimpArgs false
namespace Go.Proofs.YtcdifgacoleckaaGreatDoor
open Go Go.RowKit Go.Proofs.YtcdifgacoleckaaGreatDoor.Ab
set_option maxRecDepth 100000
set_option maxHeartbeats 4000000
structure Val where
 k : Int
 i : Int
 b : BitVec 64
 t : Byt
def zBw (v : Val) : List E := [eI v.k, eI v.i, eQ v.b, eT v.t]
def Val.ok (v : Val) : Prop := (-9223372036854775808 <= v.k /\ v.k <= 9223372036854775807) /\ -9223372036854775808 <= v.i /\ v.i <= 9223372036854775807
def Val.fit (v : Val) : Prop := v.ok /\ v.t.length <= maxLen
theorem zRx (l : List Val) (i : Nat) (h : i < l.length) : (l.map zBw).getD i [] = zBw (l.getD i ⟨0, 0, 0, []⟩) := by
 rw [List.getD_eq_getElem?_getD, List.getElem?_map, List.getElem?_eq_getElem h, List.getD_eq_getElem?_getD, List.getElem?_eq_getElem h]
 rfl
def zU2 (l : List Val) : E := .sl (l.map zBw)
theorem zAS {α : Type} {l : List α} {i : Nat} {d : α} (h : i < l.length) : l.drop i = l.getD i d :: l.drop (i + 1) := by
 rw [List.drop_eq_getElem_cons h, List.getD_eq_getElem?_getD, List.getElem?_eq_getElem h]
 rfl
theorem zCF (v : Val) : ((zBw v).getD (0 + 0) E.dflt).int = v.k := rfl
theorem zF6 (v : Val) : ((zBw v).getD (0 + 1) E.dflt).int = v.i := rfl
theorem zF5 (v : Val) : ((zBw v).getD (0 + 2) E.dflt).int = (v.b.toNat : Int) := rfl
theorem zF4 (v : Val) : ((zBw v).getD (0 + 3) E.dflt).str = zA5 v.t := rfl
theorem zH2 (b : ByteArray) : b.toList = b.data.toList := ByteArray.toList_eq b
theorem zAY (x y : Byt) : zA1 (zA5 x) (zA5 y) = decide (x = y) := by
 unfold zA1
 rw [zH2, zH2, zDT, zDT]
 rw [Bool.eq_iff_iff]
 simp
theorem zAD (x : Byt) : zA1 (zA5 x) ⟨#[]⟩ = decide (x.length = 0) := by
 rw [show (⟨#[]⟩ : ByteArray) = zA5 [] from rfl, zAY]
 cases x <;> simp
def zTq (b : BitVec 64) : Bool := bif (FloatKind.f64.format.order b.toNat b.toNat != some .eq) then true else bif (FloatKind.f64.format.order b.toNat 0 == some .eq) then decide (IntKind.i64.wrap (b.toNat : Int) < 0) else false
def zPS (b : BitVec 64) : Bool := bif decide ((b.toNat : Int) = 9223372036854775808) then true else decide ((18437736874454810624 : Int) < IntKind.u64.wrap ((b.toNat : Int) * 2 ^ min (Int.toNat 1) IntKind.u64.bits))
def chk (v : Val) : Int :=
 if v.k < 0 \/ 4 < v.k then 2
 else if 40 < v.t.length then 1
 else if (v.k ≠ 4 /\ v.t.length ≠ 0) \/ (v.k ≠ 3 /\ v.b.toNat ≠ 0) \/ (v.k ≠ 2 /\ v.k ≠ 1 /\ v.i ≠ 0) then 3
 else if v.k = 1 /\ v.i ≠ 0 /\ v.i ≠ 1 then 3
 else if v.k = 3 /\ zTq v.b = true then 3
 else if v.k = 4 /\ vld v.t = false then 3 else 0
theorem zI1 (v : Val) : FnG Tryz.prog 61 gK [.agg (.es (zBw v))] (.one (.e (eI (chk v)))) := by
 refine zG 83 Tryz.func61 fun X hnt => ?_
 have hl : (zA5 v.t).size = v.t.length := zAJ v.t
 unfold chk
 repeat' first | refine zx ?_ | fail
 refine zc (fun hc => ?_) fun hc => ?_
 ·simp only [zz] at hc
  (try simp only [zCF, zF6, zF5, zF4, hl, zAD] at hc)
  (try simp only [zz] at hc)
  rw [if_pos (by omega)]
  repeat' first | refine zx ?_ | apply zn
  exact zAb ⟨.inr rfl, _, _, rfl, trivial, rfl⟩
 simp only [zz] at hc
 (try simp only [zCF, zF6, zF5, zF4, hl, zAD] at hc)
 (try simp only [zz] at hc)
 rw [if_neg (by omega)]
 repeat' first | refine zx ?_ | fail
 refine zc (fun hc => ?_) fun hc => ?_
 ·simp only [zz] at hc
  (try simp only [zCF, zF6, zF5, zF4, hl, zAD] at hc)
  (try simp only [zz] at hc)
  rw [if_pos (by omega)]
  repeat' first | refine zx ?_ | apply zn
  exact zAb ⟨.inr rfl, _, _, rfl, trivial, rfl⟩
 simp only [zz] at hc
 (try simp only [zCF, zF6, zF5, zF4, hl, zAD] at hc)
 (try simp only [zz] at hc)
 rw [if_neg (by omega)]
 repeat' first | refine zx ?_ | fail
 refine zc (fun hc => ?_) fun hc => ?_
 ·simp only [zz] at hc
  (try simp only [zCF, zF6, zF5, zF4, hl, zAD] at hc)
  (try simp only [zz] at hc)
  rw [if_pos (by omega)]
  repeat' first | refine zx ?_ | apply zn
  exact zAb ⟨.inr rfl, _, _, rfl, trivial, rfl⟩
 simp only [zz] at hc
 (try simp only [zCF, zF6, zF5, zF4, hl, zAD] at hc)
 (try simp only [zz] at hc)
 rw [if_neg (by omega)]
 repeat' first | refine zx ?_ | fail
 refine zc (fun hc => ?_) fun hc => ?_
 ·simp only [zz] at hc
  (try simp only [zCF, zF6, zF5, zF4, hl, zAD] at hc)
  (try simp only [zz] at hc)
  repeat' first | refine zx ?_ | fail
  refine zc (fun hc => ?_) fun hc => ?_
  ·simp only [zz] at hc
   (try simp only [zCF, zF6, zF5, zF4, hl, zAD] at hc)
   (try simp only [zz] at hc)
   rw [if_pos (by omega)]
   repeat' first | refine zx ?_ | apply zn
   exact zAb ⟨.inr rfl, _, _, rfl, trivial, rfl⟩
  simp only [zz] at hc
  (try simp only [zCF, zF6, zF5, zF4, hl, zAD] at hc)
  (try simp only [zz] at hc)
  rw [if_neg (by omega), if_neg (by omega), if_neg (by omega)]
  repeat' first | refine zx ?_ | apply zn
  exact zAb ⟨.inr rfl, _, _, rfl, trivial, rfl⟩
 simp only [zz] at hc
 (try simp only [zCF, zF6, zF5, zF4, hl, zAD] at hc)
 (try simp only [zz] at hc)
 rw [if_neg (by omega)]
 repeat' first | refine zx ?_ | fail
 refine zc (fun hc => ?_) fun hc => ?_
 ·have hk : v.k = 3 := of_decide_eq_true hc
  clear hc
  repeat' apply zn
  refine zAa (zzx hnt rfl ?_ (zU7 rfl rfl rfl rfl rfl rfl rfl hnt (zLd (v.b.toNat : Int)) (zzx hnt rfl ?_ (Lex.nil _)))) ?_
  ·exact zzt
  ·exact zzt
  rw [Int.toNat_natCast]
  repeat' apply zn
  refine zAa (zzx hnt rfl ?_ (callG rfl rfl rfl rfl rfl rfl hnt rfl (fun hq => ?_) (fun hq => zM5 v.b.toNat) (zzx hnt rfl ?_ (Lex.nil _)))) ?_
  ·exact zzt
  ·exact zzt
  ·exact zzt
  refine zc (fun hc => ?_) fun hc => ?_
  ·have hb : zTq v.b = true := hc
   rw [if_pos ⟨hk, hb⟩]
   repeat' first | refine zx ?_ | apply zn
   exact zAb ⟨.inr rfl, _, _, rfl, trivial, rfl⟩
  have hb : zTq v.b = false := hc
  rw [if_neg (fun h => by rw [hb] at h; exact Bool.false_ne_true h.2), if_neg (by omega)]
  repeat' first | refine zx ?_ | apply zn
  exact zAb ⟨.inr rfl, _, _, rfl, trivial, rfl⟩
 simp only [zz] at hc
 (try simp only [zCF] at hc)
 (try simp only [zz] at hc)
 rw [if_neg (fun h => hc h.1)]
 repeat' first | refine zx ?_ | fail
 refine zc (fun hc => ?_) fun hc => ?_
 ·have hk : v.k = 4 := of_decide_eq_true hc
  clear hc
  refine zV (zGa v.t) ?_
  refine zc (fun hc => ?_) fun hc => ?_
  ·have hb : vld v.t = false := by simpa using hc
   rw [if_pos ⟨hk, hb⟩]
   repeat' first | refine zx ?_ | apply zn
   exact zAb ⟨.inr rfl, _, _, rfl, trivial, rfl⟩
  have hb : vld v.t = true := by simpa using hc
  rw [if_neg (fun h => by rw [hb] at h; exact Bool.false_ne_true h.2.symm)]
  repeat' first | refine zx ?_ | apply zn
  exact zAb ⟨.inr rfl, _, _, rfl, trivial, rfl⟩
 simp only [zz] at hc
 (try simp only [zCF] at hc)
 (try simp only [zz] at hc)
 rw [if_neg (fun h => hc h.1)]
 repeat' first | refine zx ?_ | apply zn
 exact zAb ⟨.inr rfl, _, _, rfl, trivial, rfl⟩
theorem zH3 (b : BitVec 64) : FnD Tryz.prog 77 [.one (.e (eQ b))] (.v (.bool (zPS b))) := by
 refine zD 10 Tryz.func77 fun X hnt => ?_
 repeat' first | refine zx ?_ | apply zn
 exact zAb ⟨.inr rfl, _, _, rfl, trivial, rfl⟩
theorem zQ8 (b : BitVec 64) : zPS b = true ↔ b.toNat = 9223372036854775808 \/ zGk < rgF b.toNat := by
 have hb := b.isLt
 unfold zPS
 rw [zEt, decide_eq_true_eq, decide_eq_true_eq, show IntKind.u64.wrap ((b.toNat : Int) * 2 ^ min (Int.toNat 1) IntKind.u64.bits) = (((b.toNat * 2) % 18446744073709551616 : Nat) : Int) by
  unfold IntKind.wrap
  simp [IntKind.bits, IntKind.signed]]
 unfold zGk rgF
 omega
theorem zPC (b : BitVec 64) : zTq b = zPS b := by
 have hb := b.isLt
 rw [Bool.eq_iff_iff, zQ8]
 unfold zTq
 rw [zEt, zAs]
 rw [show FloatKind.f64.format = Ieee.double from rfl]
 rcases Nat.lt_or_ge zGk (rgF b.toNat) with h | h
 ·rw [zQs (.inl h)]
  exact iff_of_true (.inl rfl) (.inr h)
 ·have h0 : rgF 0 = 0 := rfl
  rw [zWM h h, zWM h (by rw [h0]; exact Nat.zero_le _)]
  have e1 : compare (rkF b.toNat) (rkF b.toNat) = .eq := by
   show compareOfLessAndEq _ _ = _
   unfold compareOfLessAndEq
   rw [if_neg (by omega), if_pos rfl]
  have e2 : ((some (compare (rkF b.toNat) (rkF 0)) == some Ordering.eq) = true) ↔ rgF b.toNat = 0 := by
   have : rkF 0 = 0 := rfl
   rw [this]
   show ((some (compareOfLessAndEq (rkF b.toNat) 0) == some Ordering.eq) = true) ↔ _
   unfold compareOfLessAndEq rkF
   by_cases hz : rgF b.toNat = 0
   ·rw [hz]; cases ngF b.toNat <;> exact iff_of_true rfl rfl
   ·cases ngF b.toNat with
    | true => simp only [if_true]; rw [if_pos (by omega)]; exact iff_of_false (by decide) hz
    | false => simp only [Bool.false_eq_true, if_false]; rw [if_neg (by omega), if_neg (by omega)]; exact iff_of_false (by decide) hz
  have e3 : (decide (IntKind.i64.wrap (b.toNat : Int) < 0) = true) ↔ 9223372036854775808 <= b.toNat := by
   rw [decide_eq_true_eq]
   unfold IntKind.wrap
   simp [IntKind.bits, IntKind.signed]
   omega
  rw [e1, e2, e3]
  have : ((some Ordering.eq != some Ordering.eq) = true) ↔ False := by decide
  rw [this, false_or]
  unfold zGk rgF at *
  omega
def W0 (v : Val) : Val := ⟨v.k, if v.k = 1 \/ v.k = 2 then v.i else 0, if v.k = 3 then v.b else 0, if v.k = 4 then v.t else []⟩
def fq (v : Val) : Bool := bif bif bif !decide (v.k = (W0 v).k /\ v.i = (W0 v).i /\ v.b.toNat = (W0 v).b.toNat /\ v.t = (W0 v).t) then true else bif decide (v.k = 1) then decide (1 < IntKind.u64.wrap v.i) else false then true
   else bif decide (v.k = 3) then zPS v.b else false then true else !vld v.t
theorem zHX {v : Val} (hv : v.ok) (h0 : 0 <= v.k) (h4 : v.k <= 4) :
  (if (v.k ≠ 4 /\ v.t.length ≠ 0) \/ (v.k ≠ 3 /\ v.b.toNat ≠ 0) \/ (v.k ≠ 2 /\ v.k ≠ 1 /\ v.i ≠ 0) then (3 : Int)
   else if v.k = 1 /\ v.i ≠ 0 /\ v.i ≠ 1 then 3
   else if v.k = 3 /\ zTq v.b = true then 3
   else if v.k = 4 /\ vld v.t = false then 3 else 0) = if fq v = true then 3 else 0 := by
 have ew : (1 < IntKind.u64.wrap v.i) ↔ ¬ (v.i = 0 \/ v.i = 1) := by
  have := hv.2
  rw [show IntKind.u64.wrap v.i = v.i % 18446744073709551616 by unfold IntKind.wrap; simp [IntKind.bits, IntKind.signed]]
  omega
 have et : v.t = [] -> vld v.t = true := fun h => by rw [h]; rfl
 rw [zPC]
 have hc : (v.k = (W0 v).k /\ v.i = (W0 v).i /\ v.b.toNat = (W0 v).b.toNat /\ v.t = (W0 v).t) ↔ ¬ ((v.k ≠ 4 /\ v.t.length ≠ 0) \/ (v.k ≠ 3 /\ v.b.toNat ≠ 0) \/ (v.k ≠ 2 /\ v.k ≠ 1 /\ v.i ≠ 0)) := by
  have hl : v.t.length = 0 ↔ v.t = [] := List.length_eq_zero_iff
  have hz : (0 : BitVec 64).toNat = 0 := rfl
  unfold W0
  dsimp only
  by_cases k1 : v.k = 1 \/ v.k = 2
  ·rw [if_pos k1, if_neg (by omega), if_neg (by omega), <-hl, hz]
   omega
  ·rw [if_neg k1]
   by_cases k3 : v.k = 3
   ·rw [if_pos k3, if_neg (by omega), <-hl]
    omega
   ·rw [if_neg k3, hz]
    by_cases k4 : v.k = 4
    ·rw [if_pos k4]
     rw [eq_self v.t, and_true]
     omega
    ·rw [if_neg k4, <-hl]
     omega
 have key : fq v = true ↔ ((((v.k ≠ 4 /\ v.t.length ≠ 0) \/ (v.k ≠ 3 /\ v.b.toNat ≠ 0) \/ (v.k ≠ 2 /\ v.k ≠ 1 /\ v.i ≠ 0)) \/ v.k = 1 /\ v.i ≠ 0 /\ v.i ≠ 1) \/ v.k = 3 /\ zPS v.b = true) \/ vld v.t = false := by
  unfold fq
  simp only [zz]
  rw [hc, ew, Classical.not_not, not_or]
 by_cases h1 : (v.k ≠ 4 /\ v.t.length ≠ 0) \/ (v.k ≠ 3 /\ v.b.toNat ≠ 0) \/ (v.k ≠ 2 /\ v.k ≠ 1 /\ v.i ≠ 0)
 ·rw [if_pos h1, if_pos (key.2 (.inl (.inl (.inl h1))))]
 ·rw [if_neg h1]
  have hte : v.k ≠ 4 -> vld v.t = true := fun h => et (List.length_eq_zero_iff.1 (by omega))
  by_cases h2 : v.k = 1 /\ v.i ≠ 0 /\ v.i ≠ 1
  ·rw [if_pos h2, if_pos (key.2 (.inl (.inl (.inr h2))))]
  ·rw [if_neg h2]
   by_cases h3 : v.k = 3 /\ zPS v.b = true
   ·rw [if_pos h3, if_pos (key.2 (.inl (.inr h3)))]
   ·rw [if_neg h3]
    by_cases h4 : v.k = 4 /\ vld v.t = false
    ·rw [if_pos h4, if_pos (key.2 (.inr h4.2))]
    ·rw [if_neg h4, if_neg]
     intro h
     rcases key.1 h with ((h | h) | h) | h
     ·exact h1 h
     ·exact h2 h
     ·exact h3 h
     ·by_cases k4 : v.k = 4
      ·exact h4 ⟨k4, h⟩
      ·rw [hte k4] at h
       cases h
theorem zSU (v w : Val) : (eqD tab 9 28 (.agg (.es (List.take 4 (List.drop 0 (zBw v))))) (.agg (.es (List.take 4 (List.drop 0 (zBw w)))))).1 :=
 ⟨⟨Nat.le_of_ble_eq_true rfl, rfl⟩, ⟨Nat.le_of_ble_eq_true rfl, rfl⟩, rfl, ⟨Nat.le_of_ble_eq_true rfl, rfl⟩, ⟨Nat.le_of_ble_eq_true rfl, rfl⟩, rfl, ⟨Nat.le_of_ble_eq_true rfl, rfl⟩, ⟨Nat.le_of_ble_eq_true rfl, rfl⟩, rfl, ⟨Nat.le_of_ble_eq_true rfl, rfl⟩, ⟨Nat.le_of_ble_eq_true rfl, rfl⟩, trivial, trivial⟩
theorem zVv (v w : Val) : (eqD tab 9 28 (.agg (.es (List.take 4 (List.drop 0 (zBw v))))) (.agg (.es (List.take 4 (List.drop 0 (zBw w)))))).2 = decide (v.k = w.k /\ v.i = w.i /\ v.b.toNat = w.b.toNat /\ v.t = w.t) := by
 show (v.k == w.k && (v.i == w.i && ((v.b.toNat : Int) == (w.b.toNat : Int) && (zA1 (zA5 v.t) (zA5 w.t) && true)))) = _
 rw [zAY, Bool.eq_iff_iff]
 simp
 omega
theorem zMu (v : Val) (hv : v.ok) : FnG Tryz.prog 38 gK [.agg (.es (zBw v))] (.one (.e (eI (chk v)))) := by
 refine zG 61 Tryz.func38 fun X hnt => ?_
 have hl : (zA5 v.t).size = v.t.length := zAJ v.t
 refine zx ?_
 refine zx ?_
 refine zx ?_
 first | refine zBy (σ := Unit) (fun x => St.of [(1, .one (.ptr 1 0 0)), (3, .one (.ptr 3 0 0)), ((1000000 + 5), .one (.eptr fsE)), ((1000000 + 6), .one (.eptr acE))] [(1, ⟨0, .box (.es (zBw v)), 0⟩), (3, ⟨0, .box (.es (zBw (W0 v))), 0⟩)]) (fun x => 0 <= v.k /\ v.k <= 4) ?_ ?_ | refine zDI (zBy (σ := Unit) (fun x => St.of [(1, .one (.ptr 1 0 0)), (3, .one (.ptr 3 0 0)), ((1000000 + 5), .one (.eptr fsE)), ((1000000 + 6), .one (.eptr acE))] [(1, ⟨0, .box (.es (zBw v)), 0⟩), (3, ⟨0, .box (.es (zBw (W0 v))), 0⟩)]) (fun x => 0 <= v.k /\ v.k <= 4) ?_ ?_)
 ·repeat' first | refine zx ?_ | fail
  refine zc (fun hc => ?_) fun hc => ?_
  ·simp only [zz] at hc
   (try simp only [zCF] at hc)
   (try simp only [zz] at hc)
   have w0 : W0 v = ⟨v.k, 0, 0, []⟩ := by unfold W0; rw [if_neg (by omega), if_neg (by omega), if_neg (by omega)]
   repeat' apply zn
   refine ⟨(), (by omega), zAh (ad := []) ⟨zzl, zzl, zzl, zzl, trivial⟩ (zAg rfl rfl rfl (zAg rfl rfl (by rw [w0]; rfl) trivial))⟩
  simp only [zz] at hc
  (try simp only [zCF] at hc)
  (try simp only [zz] at hc)
  repeat' first | refine zx ?_ | fail
  refine zc (fun hc => ?_) fun hc => ?_
  ·simp only [zz] at hc
   (try simp only [zCF] at hc)
   (try simp only [zz] at hc)
   have w0 : W0 v = ⟨v.k, v.i, 0, []⟩ := by unfold W0; rw [if_pos (by omega), if_neg (by omega), if_neg (by omega)]
   have hk := hc
   refine zc (fun hc => ?_) fun hc => ?_
   ·repeat' first | refine zx ?_ | apply zn
    repeat' apply zn
    refine ⟨(), (by omega), zAh (ad := []) ⟨zzl, zzl, zzl, zzl, trivial⟩ (zAg rfl rfl rfl (zAg rfl rfl (by rw [w0]; rfl) trivial))⟩
   simp only [zz] at hc
   (try simp only [zCF] at hc)
   (try simp only [zz] at hc)
   exact absurd hk hc
  simp only [zz] at hc
  (try simp only [zCF] at hc)
  (try simp only [zz] at hc)
  repeat' first | refine zx ?_ | fail
  refine zc (fun hc => ?_) fun hc => ?_
  ·simp only [zz] at hc
   (try simp only [zCF] at hc)
   (try simp only [zz] at hc)
   have w0 : W0 v = ⟨v.k, v.i, 0, []⟩ := by unfold W0; rw [if_pos (by omega), if_neg (by omega), if_neg (by omega)]
   repeat' first | refine zx ?_ | apply zn
   repeat' apply zn
   refine ⟨(), (by omega), zAh (ad := []) ⟨zzl, zzl, zzl, zzl, trivial⟩ (zAg rfl rfl rfl (zAg rfl rfl (by rw [w0]; rfl) trivial))⟩
  simp only [zz] at hc
  (try simp only [zCF] at hc)
  (try simp only [zz] at hc)
  repeat' first | refine zx ?_ | fail
  refine zc (fun hc => ?_) fun hc => ?_
  ·simp only [zz] at hc
   (try simp only [zCF] at hc)
   (try simp only [zz] at hc)
   have w0 : W0 v = ⟨v.k, 0, v.b, []⟩ := by unfold W0; rw [if_neg (by omega), if_pos (by omega), if_neg (by omega)]
   repeat' first | refine zx ?_ | apply zn
   repeat' apply zn
   refine ⟨(), (by omega), zAh (ad := []) ⟨zzl, zzl, zzl, zzl, trivial⟩ (zAg rfl rfl rfl (zAg rfl rfl (by rw [w0]; rfl) trivial))⟩
  simp only [zz] at hc
  (try simp only [zCF] at hc)
  (try simp only [zz] at hc)
  repeat' first | refine zx ?_ | fail
  refine zc (fun hc => ?_) fun hc => ?_
  ·simp only [zz] at hc
   (try simp only [zCF] at hc)
   (try simp only [zz] at hc)
   have w0 : W0 v = ⟨v.k, 0, 0, v.t⟩ := by unfold W0; rw [if_neg (by omega), if_neg (by omega), if_pos (by omega)]
   repeat' first | refine zx ?_ | apply zn
   repeat' apply zn
   refine ⟨(), (by omega), zAh (ad := []) ⟨zzl, zzl, zzl, zzl, trivial⟩ (zAg rfl rfl rfl (zAg rfl rfl (by rw [w0]; rfl) trivial))⟩
  simp only [zz] at hc
  (try simp only [zCF] at hc)
  (try simp only [zz] at hc)
  repeat' first | refine zx ?_ | apply zn
  unfold chk
  rw [if_pos (by omega)]
  exact zAb ⟨.inr rfl, _, _, rfl, trivial, rfl⟩
 rintro _ ⟨hk0, hk4⟩
 unfold chk
 rw [if_neg (by omega)]
 repeat' first | refine zx ?_ | fail
 refine zc (fun hc => ?_) fun hc => ?_
 ·simp only [zz] at hc
  (try simp only [zCF, zF6, zF5, zF4, hl] at hc)
  (try simp only [zz] at hc)
  rw [if_pos (by omega)]
  repeat' first | refine zx ?_ | apply zn
  exact zAb ⟨.inr rfl, _, _, rfl, trivial, rfl⟩
 simp only [zz] at hc
 (try simp only [zCF, zF6, zF5, zF4, hl] at hc)
 (try simp only [zz] at hc)
 rw [if_neg (by omega)]
 have e1 := zSU v (W0 v)
 repeat' apply zn
 refine zAa (zzx hnt rfl ?_ (callG rfl rfl rfl rfl rfl rfl hnt rfl (fun hq => ?_) (fun hq => zH3 v.b) (zzx hnt rfl ?_ (callVG rfl rfl rfl rfl rfl rfl hnt rfl (fun hq => ?_) rfl (fun hq => zGa v.t) (zzx hnt rfl ?_ (Lex.nil _)))))) ?_
 ·exact zza
 ·exact zzt
 ·exact zza
 ·exact zzt
 ·exact zza
 rw [zVv]
 refine zc (fun hc => ?_) fun hc => ?_
 ·have hc : fq v = true := hc
  rw [zHX hv hk0 hk4, if_pos hc]
  repeat' first | refine zx ?_ | apply zn
  exact zAb ⟨.inr rfl, _, _, rfl, trivial, rfl⟩
 have hc : fq v = false := hc
 rw [zHX hv hk0 hk4, if_neg (by rw [hc]; exact Bool.false_ne_true)]
 repeat' first | refine zx ?_ | apply zn
 exact zAb ⟨.inr rfl, _, _, rfl, trivial, rfl⟩
def zHB (c : UInt8) : Bool := bif decide ((97 : Int) <= (c.toNat : Int)) then decide ((c.toNat : Int) <= 122) else false
def zHS (c : UInt8) : Bool := bif decide ((65 : Int) <= (c.toNat : Int)) then decide ((c.toNat : Int) <= 90) else false
def zR0 (c : UInt8) : Bool := bif decide ((48 : Int) <= (c.toNat : Int)) then decide ((c.toNat : Int) <= 57) else false
def zKZ (c : UInt8) : Bool := bif bif zHB c then true else zR0 c then true else decide ((c.toNat : Int) = 95)
def zRs : Byt := [97, 98, 99, 100, 101, 102, 103, 104, 105, 106, 107, 108, 109, 110, 111, 112, 113, 114, 115, 116, 117, 118, 119, 120, 121, 122]
def zO2 : Byt := [65, 66, 67, 68, 69, 70, 71, 72, 73, 74, 75, 76, 77, 78, 79, 80, 81, 82, 83, 84, 85, 86, 87, 88, 89, 90]
def zSC : Byt := [97, 98, 99, 100, 101, 102, 103, 104, 105, 106, 107, 108, 109, 110, 111, 112, 113, 114, 115, 116, 117, 118, 119, 120, 121, 122, 48, 49, 50, 51, 52, 53, 54, 55, 56, 57, 95]
def amg (l : Byt) (c : UInt8) : Bool := l.any fun x => decide (x = c)
theorem zI4 {p q : UInt8 -> Bool} (h : ∀ n : Fin 256, p (UInt8.ofNat n.val) = q (UInt8.ofNat n.val)) (c : UInt8) : p c = q c := by
 have := h ⟨c.toNat, c.toNat_lt⟩
 simpa using this
theorem zPG : ∀ c, amg zRs c = zHB c := zI4 (by decide +kernel)
theorem zPH : ∀ c, amg zO2 c = zHS c := zI4 (by decide +kernel)
theorem zRa : ∀ c, amg zSC c = zKZ c := zI4 (by decide +kernel)
theorem zLP (c : UInt8) : FnD Tryz.prog 100 [.one (.e (eB c))] (.v (.bool (zHB c))) := by
 refine zD 9 Tryz.func100 fun X hnt => ?_
 repeat' first | refine zx ?_ | apply zn
 exact zAb ⟨.inr rfl, _, _, rfl, trivial, rfl⟩
theorem zQO (c : UInt8) : FnD Tryz.prog 101 [.one (.e (eB c))] (.v (.bool (zHS c))) := by
 refine zD 9 Tryz.func101 fun X hnt => ?_
 repeat' first | refine zx ?_ | apply zn
 exact zAb ⟨.inr rfl, _, _, rfl, trivial, rfl⟩
theorem zQ0 (c : UInt8) : FnD Tryz.prog 110 [.one (.e (eB c))] (.v (.bool (zR0 c))) := by
 refine zD 9 Tryz.func110 fun X hnt => ?_
 repeat' first | refine zx ?_ | apply zn
 exact zAb ⟨.inr rfl, _, _, rfl, trivial, rfl⟩
theorem zOX (c : UInt8) : FnD Tryz.prog 99 [.one (.e (eB c))] (.v (.bool (zKZ c))) := by
 refine zD 13 Tryz.func99 fun X hnt => ?_
 repeat' first | refine zx ?_ | apply zn
 repeat' apply zn
 refine zAa (zzx hnt rfl ?_ (call rfl rfl rfl rfl rfl rfl rfl hnt (zLP c) (zzx hnt rfl ?_ (callG rfl rfl rfl rfl rfl rfl hnt rfl (fun hq => ?_) (fun hq => zQ0 c) (zzx hnt rfl ?_ (Lex.nil _)))))) ?_
 ·exact zzt
 ·exact zzt
 ·exact zzt
 ·exact zzt
 exact zAb ⟨.inr rfl, _, _, rfl, trivial, rfl⟩
theorem zR5 (s : Byt) (hs : s.length <= maxLen) (n : Nat) (q : UInt8 -> Bool) (hq : ∀ c, FnD Tryz.prog n [.one (.e (eB c))] (.v (.bool (q c)))) : FnD Tryz.prog 98 [.one (.e (eT s)), .one (.clo n [])] (.v (.bool (s.all q && decide (s.length ≠ 0)))) := by
 refine zD 20 Tryz.func98 fun X hnt => ?_
 have hl : (zA5 s).size = s.length := zAJ s
 unfold maxLen at hs
 repeat' first | refine zx ?_ | apply zn
 repeat' apply zn
 refine zAx (σ := Nat) (fun i => St.of [(0, .one (.e (eT s))), (1, .one (.clo n [])), (7, .one (.e (eI ((zA5 s).size : Int)))), (8, .one (.e (eI (i : Int))))] []) (fun i => (s.drop i).all q = s.all q /\ i <= s.length) (fun i => s.length - i) (0) (zAh (ad := []) ⟨zzl, zzl, zzl, zzl, trivial⟩ trivial) ⟨rfl, Nat.zero_le _⟩ ?_
 rintro i ⟨hi, il⟩
 repeat' first | refine zx ?_ | fail
 refine zc (fun hc => ?_) fun hc => ?_
 ·simp only [zz] at hc
  (try simp only [hl] at hc)
  (try simp only [zz] at hc)
  have hlt : i < s.length := by omega
  rw [zAS (d := 0) hlt, List.all_cons] at hi
  refine zx ?_
  have gx : (zA5 s).data.toList.getD (Int.toNat (i : Int)) 0 = s.getD i 0 := rfl
  have hf := hq (s.getD i 0)
  rw [<-gx] at hf
  repeat' apply zn
  refine zAa (zzx hnt rfl ?_ (call rfl rfl rfl rfl rfl rfl rfl hnt (hf) (zzx hnt rfl ?_ (Lex.nil _)))) ?_
  ·rw [hl]
   exact zza
  ·exact zzt
  rw [gx]
  refine zc (fun hc => ?_) fun hc => ?_
  ·simp only [zz] at hc
   rw [hc, Bool.false_and] at hi
   rw [<-hi]
   repeat' first | refine zx ?_ | apply zn
   exact zAb ⟨.inr rfl, _, _, rfl, trivial, rfl⟩
  simp only [zz] at hc
  rw [hc, Bool.true_and] at hi
  repeat' first | refine zx ?_ | apply zn
  refine ⟨i + 1, ⟨hi, by omega⟩, by omega, zAh (ad := []) ⟨zzl, zzl, zzl, zzl, trivial⟩ trivial⟩
 simp only [zz] at hc
 (try simp only [hl] at hc)
 (try simp only [zz] at hc)
 refine zAt ?_
 rw [<-hi, List.drop_eq_nil_of_le (by omega)]
 repeat' first | refine zx ?_ | apply zn
 refine zAb ⟨.inr rfl, _, _, rfl, trivial, ?_⟩
 refine congrArg (fun z : Bool => D.v (.bool z)) ?_
 rw [zAD]
 simp
theorem zI8 (c : UInt8) (l : Byt) (hm : l.length <= maxLen) : FnD Tryz.prog 95 [.one (.e (eB c)), .one (.e (eT l))] (.v (.bool (amg l c))) := by
 refine zD 17 Tryz.func95 fun X hnt => ?_
 have hl : (zA5 l).size = l.length := zAJ l
 unfold maxLen at hm
 unfold amg
 repeat' first | refine zx ?_ | apply zn
 repeat' apply zn
 refine zAx (σ := Nat) (fun i => St.of [(0, .one (.e (eB c))), (1, .one (.e (eT l))), (5, .one (.e (eI (i : Int))))] []) (fun i => ((l.drop i).any fun x => decide (x = c)) = (l.any fun x => decide (x = c)) /\ i <= l.length) (fun i => l.length - i) (0) (zAh (ad := []) ⟨zzl, zzl, zzl, trivial⟩ trivial) ⟨rfl, Nat.zero_le _⟩ ?_
 rintro i ⟨hi, il⟩
 repeat' first | refine zx ?_ | fail
 refine zc (fun hc => ?_) fun hc => ?_
 ·simp only [zz] at hc
  (try simp only [hl] at hc)
  (try simp only [zz] at hc)
  have hlt : i < l.length := by omega
  rw [zAS (d := 0) hlt, List.any_cons] at hi
  have gx : (zA5 l).data.toList.getD (Int.toNat (i : Int)) 0 = l.getD i 0 := rfl
  refine zy ?_ ?_
  ·rw [hl]
   exact zza
  refine zc (fun hc => ?_) fun hc => ?_
  ·simp only [zz] at hc
   (try simp only [gx] at hc)
   (try simp only [zz] at hc)
   rw [decide_eq_true (UInt8.toNat_inj.1 (by omega)), Bool.true_or] at hi
   rw [<-hi]
   repeat' first | refine zx ?_ | apply zn
   exact zAb ⟨.inr rfl, _, _, rfl, trivial, rfl⟩
  simp only [zz] at hc
  (try simp only [gx] at hc)
  (try simp only [zz] at hc)
  rw [decide_eq_false (fun h => hc (by rw [h])), Bool.false_or] at hi
  repeat' first | refine zx ?_ | apply zn
  refine ⟨i + 1, ⟨hi, by omega⟩, by omega, zAh (ad := []) ⟨zzl, zzl, zzl, trivial⟩ trivial⟩
 simp only [zz] at hc
 (try simp only [hl] at hc)
 (try simp only [zz] at hc)
 refine zAt ?_
 rw [<-hi, List.drop_eq_nil_of_le (by omega)]
 repeat' first | refine zx ?_ | apply zn
 exact zAb ⟨.inr rfl, _, _, rfl, trivial, rfl⟩
def zOl (q : UInt8 -> Bool) : Byt -> Nat
 | [] => 0
 | a :: x => if q a = true then zOl q x + 1 else 0
theorem zIm (q : UInt8 -> Bool) : ∀ x : Byt, decide ((zOl q x : Int) = (x.length : Int)) = x.all q
 | [] => rfl
 | a :: x => by
  have ih := zIm q x
  have hle : ∀ y : Byt, zOl q y <= y.length := by
   intro y
   induction y with
   | nil => exact Nat.le_refl _
   | cons b y ih => rw [zOl, List.length_cons]; split <;> omega
  rw [zOl, List.all_cons, <-ih, List.length_cons]
  cases h : q a with
  | true => rw [if_pos rfl, Bool.true_and, Bool.eq_iff_iff, decide_eq_true_eq, decide_eq_true_eq]; omega
  | false => rw [if_neg Bool.false_ne_true, Bool.false_and, decide_eq_false (by omega)]
theorem zL1 (s l : Byt) (hs : s.length <= maxLen) (hm : l.length <= maxLen) : FnD Tryz.prog 96 [.one (.e (eT s)), .one (.e (eT l))] (.one (.e (eI (zOl (amg l) s : Int)))) := by
 refine zD 20 Tryz.func96 fun X hnt => ?_
 have hl : (zA5 s).size = s.length := zAJ s
 unfold maxLen at hs
 repeat' first | refine zx ?_ | apply zn
 repeat' apply zn
 refine zAx (σ := Nat) (fun i => St.of [(0, .one (.e (eT s))), (1, .one (.e (eT l))), (5, .one (.e (eI (i : Int))))] []) (fun i => zOl (amg l) (s.drop i) + i = zOl (amg l) s /\ i <= s.length) (fun i => s.length - i) (0) (zAh (ad := []) ⟨zzl, zzl, zzl, trivial⟩ trivial) ⟨rfl, Nat.zero_le _⟩ ?_
 rintro i ⟨hi, il⟩
 have gx : (zA5 s).data.toList.getD (Int.toNat (i : Int)) 0 = s.getD i 0 := rfl
 have hf := zI8 (s.getD i 0) l hm
 rw [<-gx] at hf
 repeat' apply zn
 refine zAa (zzx hnt rfl ?_ (callG rfl rfl rfl rfl rfl rfl hnt rfl (fun hq => ?_) (fun hq => hf) (zzx hnt rfl ?_ (Lex.nil _)))) ?_
 ·rw [hl]
  exact zza
 ·exact zzt
 ·exact zzt
 rw [gx]
 refine zc (fun hc => ?_) fun hc => ?_
 ·simp only [zz] at hc
  (try simp only [hl] at hc)
  (try simp only [zz] at hc)
  have hlt : i < s.length := by omega
  rw [zAS (d := 0) hlt, zOl, if_pos hc.2] at hi
  repeat' first | refine zx ?_ | apply zn
  refine ⟨i + 1, ⟨by omega, by omega⟩, by omega, zAh (ad := []) ⟨zzl, zzl, zzl, trivial⟩ trivial⟩
 simp only [zz] at hc
 (try simp only [hl] at hc)
 (try simp only [zz] at hc)
 refine zAt ?_
 have hz : zOl (amg l) (s.drop i) = 0 := by
  rcases Nat.lt_or_ge i s.length with h | h
  ·rw [zAS (d := 0) h, zOl, if_neg]
   rcases hc with hc | hc
   ·omega
   ·rw [hc]; exact Bool.false_ne_true
  ·rw [List.drop_eq_nil_of_le h]; rfl
 rw [<-hi, hz, Nat.zero_add]
 repeat' first | refine zx ?_ | apply zn
 exact zAb ⟨.inr rfl, _, _, rfl, trivial, rfl⟩
def zRR (s : Byt) : Bool := bif bif decide (s.length ≠ 0) then zHB (s.getD 0 0) else false then s.all zKZ else false
theorem zFd (s : Byt) (hs : s.length <= maxLen) : FnD Tryz.prog 76 [.one (.e (eT s))] (.v (.bool (zRR s))) := by
 refine zD 17 Tryz.func76 fun X hnt => ?_
 have hl : (zA5 s).size = s.length := zAJ s
 repeat' first | refine zx ?_ | apply zn
 have gx : (zA5 s).data.toList.getD (Int.toNat 0) 0 = s.getD 0 0 := rfl
 have hf := zI8 (s.getD 0 0) zRs (by decide)
 rw [<-gx] at hf
 repeat' apply zn
 refine zAa (zzx hnt rfl ?_ (callG rfl rfl rfl rfl rfl rfl hnt rfl (fun hq => ?_) (fun hq => hf) (zzx hnt rfl ?_ (callG rfl rfl rfl rfl rfl rfl hnt rfl (fun hq => ?_) (fun hq => zL1 s zSC hs (by decide)) (zzx hnt rfl ?_ (Lex.nil _)))))) ?_
 ·rw [zAD, hl]
  exact zza
 ·exact zzt
 ·exact zzt
 ·exact zzt
 ·exact zzt
 refine zAb ⟨.inr rfl, _, _, rfl, trivial, ?_⟩
 refine congrArg (fun z : Bool => D.v (.bool z)) ?_
 rw [zAD, hl, zIm, gx, zPG]
 unfold zRR
 rw [show amg zSC = zKZ from funext zRa]
 congr 2
 simp
def zIi : List Byt := [[40], [41], [44], [46], [61], [60], [62], [60, 61], [62, 61], [60, 62], [43], [45], [42], [47], [124, 124], [59]]
def zRQ (t : Byt) : Bool := zIi.any fun x => decide (t = x)
theorem zQa (t : Byt) : FnD Tryz.prog 102 [.one (.e (eT t))] (.v (.bool (zRQ t))) := by
 refine zD 21 Tryz.func102 fun X hnt => ?_
 repeat' first | refine zx ?_ | apply zn
 have e0 : zA1 (zA5 t) ⟨#[40]⟩ = decide (t = [40]) := zAY t [40]
 rw [e0]
 refine zc (fun hc => ?_) fun hc => ?_
 ·have h := of_decide_eq_true hc
  rw [h]
  refine zc (fun hc => ?_) fun hc => ?_
  ·repeat' first | refine zx ?_ | apply zn
   exact zAb ⟨.inr rfl, _, _, rfl, trivial, rfl⟩
  exact absurd hc (by decide)
 simp only [zz] at hc
 have h0 := hc
 refine zx ?_
 have e1 : zA1 (zA5 t) ⟨#[41]⟩ = decide (t = [41]) := zAY t [41]
 rw [e1]
 refine zc (fun hc => ?_) fun hc => ?_
 ·have h := of_decide_eq_true hc
  rw [h]
  refine zc (fun hc => ?_) fun hc => ?_
  ·repeat' first | refine zx ?_ | apply zn
   exact zAb ⟨.inr rfl, _, _, rfl, trivial, rfl⟩
  exact absurd hc (by decide)
 simp only [zz] at hc
 have h1 := hc
 refine zx ?_
 have e2 : zA1 (zA5 t) ⟨#[44]⟩ = decide (t = [44]) := zAY t [44]
 rw [e2]
 refine zc (fun hc => ?_) fun hc => ?_
 ·have h := of_decide_eq_true hc
  rw [h]
  refine zc (fun hc => ?_) fun hc => ?_
  ·repeat' first | refine zx ?_ | apply zn
   exact zAb ⟨.inr rfl, _, _, rfl, trivial, rfl⟩
  exact absurd hc (by decide)
 simp only [zz] at hc
 have h2 := hc
 refine zx ?_
 have e3 : zA1 (zA5 t) ⟨#[46]⟩ = decide (t = [46]) := zAY t [46]
 rw [e3]
 refine zc (fun hc => ?_) fun hc => ?_
 ·have h := of_decide_eq_true hc
  rw [h]
  refine zc (fun hc => ?_) fun hc => ?_
  ·repeat' first | refine zx ?_ | apply zn
   exact zAb ⟨.inr rfl, _, _, rfl, trivial, rfl⟩
  exact absurd hc (by decide)
 simp only [zz] at hc
 have h3 := hc
 refine zx ?_
 have e4 : zA1 (zA5 t) ⟨#[61]⟩ = decide (t = [61]) := zAY t [61]
 rw [e4]
 refine zc (fun hc => ?_) fun hc => ?_
 ·have h := of_decide_eq_true hc
  rw [h]
  refine zc (fun hc => ?_) fun hc => ?_
  ·repeat' first | refine zx ?_ | apply zn
   exact zAb ⟨.inr rfl, _, _, rfl, trivial, rfl⟩
  exact absurd hc (by decide)
 simp only [zz] at hc
 have h4 := hc
 refine zx ?_
 have e5 : zA1 (zA5 t) ⟨#[60]⟩ = decide (t = [60]) := zAY t [60]
 rw [e5]
 refine zc (fun hc => ?_) fun hc => ?_
 ·have h := of_decide_eq_true hc
  rw [h]
  refine zc (fun hc => ?_) fun hc => ?_
  ·repeat' first | refine zx ?_ | apply zn
   exact zAb ⟨.inr rfl, _, _, rfl, trivial, rfl⟩
  exact absurd hc (by decide)
 simp only [zz] at hc
 have h5 := hc
 refine zx ?_
 have e6 : zA1 (zA5 t) ⟨#[62]⟩ = decide (t = [62]) := zAY t [62]
 rw [e6]
 refine zc (fun hc => ?_) fun hc => ?_
 ·have h := of_decide_eq_true hc
  rw [h]
  refine zc (fun hc => ?_) fun hc => ?_
  ·repeat' first | refine zx ?_ | apply zn
   exact zAb ⟨.inr rfl, _, _, rfl, trivial, rfl⟩
  exact absurd hc (by decide)
 simp only [zz] at hc
 have h6 := hc
 refine zx ?_
 have e7 : zA1 (zA5 t) ⟨#[60, 61]⟩ = decide (t = [60, 61]) := zAY t [60, 61]
 rw [e7]
 refine zc (fun hc => ?_) fun hc => ?_
 ·have h := of_decide_eq_true hc
  rw [h]
  refine zc (fun hc => ?_) fun hc => ?_
  ·repeat' first | refine zx ?_ | apply zn
   exact zAb ⟨.inr rfl, _, _, rfl, trivial, rfl⟩
  exact absurd hc (by decide)
 simp only [zz] at hc
 have h7 := hc
 refine zx ?_
 have e8 : zA1 (zA5 t) ⟨#[62, 61]⟩ = decide (t = [62, 61]) := zAY t [62, 61]
 rw [e8]
 refine zc (fun hc => ?_) fun hc => ?_
 ·have h := of_decide_eq_true hc
  rw [h]
  refine zc (fun hc => ?_) fun hc => ?_
  ·repeat' first | refine zx ?_ | apply zn
   exact zAb ⟨.inr rfl, _, _, rfl, trivial, rfl⟩
  exact absurd hc (by decide)
 simp only [zz] at hc
 have h8 := hc
 refine zx ?_
 have e9 : zA1 (zA5 t) ⟨#[60, 62]⟩ = decide (t = [60, 62]) := zAY t [60, 62]
 rw [e9]
 refine zc (fun hc => ?_) fun hc => ?_
 ·have h := of_decide_eq_true hc
  rw [h]
  refine zc (fun hc => ?_) fun hc => ?_
  ·repeat' first | refine zx ?_ | apply zn
   exact zAb ⟨.inr rfl, _, _, rfl, trivial, rfl⟩
  exact absurd hc (by decide)
 simp only [zz] at hc
 have h9 := hc
 refine zx ?_
 have e10 : zA1 (zA5 t) ⟨#[43]⟩ = decide (t = [43]) := zAY t [43]
 rw [e10]
 refine zc (fun hc => ?_) fun hc => ?_
 ·have h := of_decide_eq_true hc
  rw [h]
  refine zc (fun hc => ?_) fun hc => ?_
  ·repeat' first | refine zx ?_ | apply zn
   exact zAb ⟨.inr rfl, _, _, rfl, trivial, rfl⟩
  exact absurd hc (by decide)
 simp only [zz] at hc
 have h10 := hc
 refine zx ?_
 have e11 : zA1 (zA5 t) ⟨#[45]⟩ = decide (t = [45]) := zAY t [45]
 rw [e11]
 refine zc (fun hc => ?_) fun hc => ?_
 ·have h := of_decide_eq_true hc
  rw [h]
  refine zc (fun hc => ?_) fun hc => ?_
  ·repeat' first | refine zx ?_ | apply zn
   exact zAb ⟨.inr rfl, _, _, rfl, trivial, rfl⟩
  exact absurd hc (by decide)
 simp only [zz] at hc
 have h11 := hc
 refine zx ?_
 have e12 : zA1 (zA5 t) ⟨#[42]⟩ = decide (t = [42]) := zAY t [42]
 rw [e12]
 refine zc (fun hc => ?_) fun hc => ?_
 ·have h := of_decide_eq_true hc
  rw [h]
  refine zc (fun hc => ?_) fun hc => ?_
  ·repeat' first | refine zx ?_ | apply zn
   exact zAb ⟨.inr rfl, _, _, rfl, trivial, rfl⟩
  exact absurd hc (by decide)
 simp only [zz] at hc
 have h12 := hc
 refine zx ?_
 have e13 : zA1 (zA5 t) ⟨#[47]⟩ = decide (t = [47]) := zAY t [47]
 rw [e13]
 refine zc (fun hc => ?_) fun hc => ?_
 ·have h := of_decide_eq_true hc
  rw [h]
  refine zc (fun hc => ?_) fun hc => ?_
  ·repeat' first | refine zx ?_ | apply zn
   exact zAb ⟨.inr rfl, _, _, rfl, trivial, rfl⟩
  exact absurd hc (by decide)
 simp only [zz] at hc
 have h13 := hc
 refine zx ?_
 have e14 : zA1 (zA5 t) ⟨#[124, 124]⟩ = decide (t = [124, 124]) := zAY t [124, 124]
 rw [e14]
 refine zc (fun hc => ?_) fun hc => ?_
 ·have h := of_decide_eq_true hc
  rw [h]
  refine zc (fun hc => ?_) fun hc => ?_
  ·repeat' first | refine zx ?_ | apply zn
   exact zAb ⟨.inr rfl, _, _, rfl, trivial, rfl⟩
  exact absurd hc (by decide)
 simp only [zz] at hc
 have h14 := hc
 refine zx ?_
 have e15 : zA1 (zA5 t) ⟨#[59]⟩ = decide (t = [59]) := zAY t [59]
 rw [e15]
 refine zc (fun hc => ?_) fun hc => ?_
 ·have h := of_decide_eq_true hc
  rw [h]
  repeat' first | refine zx ?_ | apply zn
  exact zAb ⟨.inr rfl, _, _, rfl, trivial, rfl⟩
 simp only [zz] at hc
 have h15 := hc
 have hs : zRQ t = false := by simp only [zRQ, zIi, List.any_cons, List.any_nil, Bool.or_false, Bool.or_eq_false_iff, decide_eq_false_iff_not]; exact ⟨h0, h1, h2, h3, h4, h5, h6, h7, h8, h9, h10, h11, h12, h13, h14, h15⟩
 rw [hs]
 repeat' first | refine zx ?_ | apply zn
 exact zAb ⟨.inr rfl, _, _, rfl, trivial, rfl⟩
theorem zOU (t : Byt) : FnD Tryz.prog 109 [.one (.e (eT t))] (.v (.bool (zRQ t))) := by
 refine zD 15 Tryz.func109 fun X hnt => ?_
 unfold zRQ
 repeat' first | refine zx ?_ | apply zn
 repeat' apply zn
 refine zAx (σ := Nat) (fun i => St.of [(0, .one (.e (eT t))), (5, .one (.own 5 0)), (6, .one (.e (eI 16))), (7, .one (.e (eI (i : Int))))] [(5, ⟨0, .row 1 (zIi.map fun x => [eT x]), 0⟩)]) (fun i => ((zIi.drop i).any fun x => decide (t = x)) = (zIi.any fun x => decide (t = x)) /\ i <= 16) (fun i => 16 - i) (0) (zAh (ad := []) ⟨zzl, zzl, zzl, zzl, trivial⟩ zm) ⟨rfl, Nat.zero_le _⟩ ?_
 rintro i ⟨hi, il⟩
 repeat' first | refine zx ?_ | fail
 refine zc (fun hc => ?_) fun hc => ?_
 ·simp only [zz] at hc
  have hlt : i < zIi.length := by show i < 16; omega
  rw [zAS (d := []) hlt, List.any_cons] at hi
  have hg : (zIi.map fun x => [eT x]).getD (Int.toNat (i : Int)) [] = [eT (zIi.getD i [])] := by
   rw [Int.toNat_natCast, List.getD_eq_getElem?_getD, List.getElem?_map, List.getElem?_eq_getElem hlt, List.getD_eq_getElem?_getD, List.getElem?_eq_getElem hlt]
   rfl
  have h16 : (i : Int) < (16 : Nat) := by omega
  refine zy ?_ ?_
  ·rw [hg]
   exact zza
  rw [hg]
  generalize zIi.getD i [] = x at *
  refine zx ?_
  have ex : zA1 (zA5 t) (zA5 x) = decide (t = x) := zAY t x
  refine zc (fun hc => ?_) fun hc => ?_
  ·have hc := ex.symm.trans hc
   rw [hc, Bool.true_or] at hi
   rw [<-hi]
   repeat' first | refine zx ?_ | apply zn
   exact zAb ⟨.inr rfl, _, _, rfl, trivial, rfl⟩
  have hc := ex.symm.trans hc
  rw [hc, Bool.false_or] at hi
  repeat' first | refine zx ?_ | apply zn
  refine ⟨i + 1, ⟨hi, by omega⟩, by omega, zAh (ad := []) ⟨zzl, zzl, zzl, zzl, trivial⟩ zm⟩
 simp only [zz] at hc
 refine zAt ?_
 rw [<-hi, List.drop_eq_nil_of_le (by show 16 <= i; omega)]
 repeat' first | refine zx ?_ | apply zn
 exact zAb ⟨.inr rfl, _, _, rfl, trivial, rfl⟩
structure Tok where
 k : Int
 t : Byt
 i : Int
 b : BitVec 64
def zBO (v : Tok) : List E := [eI v.k, eT v.t, eI v.i, eQ v.b]
theorem zBU (v : Tok) : ((zBO v).getD (0 + 0) E.dflt).int = v.k := rfl
theorem zKd (v : Tok) : ((zBO v).getD (0 + 1) E.dflt).str = zA5 v.t := rfl
theorem zU1 (v : Tok) : ((zBO v).getD (0 + 2) E.dflt).int = v.i := rfl
theorem zU0 (v : Tok) : ((zBO v).getD (0 + 3) E.dflt).int = (v.b.toNat : Int) := rfl
def zOW (s : Byt) : Bool := bif s.all zKZ && decide (s.length ≠ 0) then zHB (s.getD 0 0) else false
def zWd (s : Byt) : Bool := s.all zHS && decide (s.length ≠ 0)
def zDx (v : Tok) : Bool := if v.k = 1 then zOW v.t else if v.k = 2 then zWd v.t else if v.k = 3 then decide (0 <= v.i) else if v.k = 4 then vld v.t else if v.k = 5 then decide (chk ⟨3, 0, v.b, []⟩ = 0) else zRQ v.t
def tkF (v : Tok) : Int :=
 if v.k < 1 \/ 6 < v.k then 2
 else if (v.k = 4 /\ 40 < v.t.length) \/ ((v.k = 1 \/ v.k = 2) /\ 8 < v.t.length) then 1
 else if ((v.k ≠ 3 /\ v.i ≠ 0) \/ (v.k ≠ 5 /\ v.b.toNat ≠ 0)) \/ ((v.k = 3 \/ v.k = 5) /\ v.t.length ≠ 0) then 3
 else if zDx v = true then 0 else 3
theorem zCU (v : Tok) (hm : v.t.length <= maxLen) : FnG Tryz.prog 80 gK [.agg (.es (zBO v))] (.one (.e (eI (tkF v)))) := by
 refine zG 112 Tryz.func80 fun X hnt => ?_
 have hl : (zA5 v.t).size = v.t.length := zAJ v.t
 refine zx ?_
 refine zxa ?_
 refine zc (fun hc => ?_) fun hc => ?_
 ·unfold tkF
  simp only [zz] at hc
  (try simp only [zBU] at hc)
  (try simp only [zz] at hc)
  rw [if_pos (by omega)]
  repeat' first | refine zx ?_ | apply zn
  exact zAb ⟨.inr rfl, _, _, rfl, trivial, rfl⟩
 simp only [zz] at hc
 (try simp only [zBU] at hc)
 (try simp only [zz] at hc)
 have hk := hc
 repeat' first | refine zx ?_ | fail
 refine zc (fun hc => ?_) fun hc => ?_
 ·unfold tkF
  simp only [zz] at hc
  (try simp only [zBU, zKd, hl] at hc)
  (try simp only [zz] at hc)
  rw [if_neg (by omega)]
  rw [if_pos (by omega)]
  repeat' first | refine zx ?_ | apply zn
  exact zAb ⟨.inr rfl, _, _, rfl, trivial, rfl⟩
 simp only [zz] at hc
 (try simp only [zBU, zKd, hl] at hc)
 (try simp only [zz] at hc)
 have hs := hc
 repeat' first | refine zx ?_ | fail
 refine zc (fun hc => ?_) fun hc => ?_
 ·unfold tkF
  simp only [zz] at hc
  (try simp only [zBU, zKd, zU1, zU0, zAD] at hc)
  (try simp only [zz] at hc)
  rw [if_neg (by omega), if_neg (by omega)]
  rw [if_pos (by omega)]
  repeat' first | refine zx ?_ | apply zn
  exact zAb ⟨.inr rfl, _, _, rfl, trivial, rfl⟩
 simp only [zz] at hc
 (try simp only [zBU, zKd, zU1, zU0, zAD] at hc)
 (try simp only [zz] at hc)
 have h3 := hc
 have ht : tkF v = if zDx v = true then 0 else 3 := by
  unfold tkF
  rw [if_neg (by omega), if_neg (by omega), if_neg (by omega)]
 rw [ht]
 refine zx ?_
 refine zx ?_
 first | refine zBy (σ := Unit) (fun x => St.of [(3, .v (.bool (zDx v)))] []) (fun x => True) ?_ ?_ | refine zDI (zBy (σ := Unit) (fun x => St.of [(3, .v (.bool (zDx v)))] []) (fun x => True) ?_ ?_)
 ·repeat' first | refine zx ?_ | fail
  refine zc (fun hc => ?_) fun hc => ?_
  ·simp only [zz] at hc
   (try simp only [zBU] at hc)
   (try simp only [zz] at hc)
   have hf := zR5 v.t hm _ zKZ zOX
   repeat' apply zn
   refine zAa (zzx hnt rfl ?_ (call rfl rfl rfl rfl rfl rfl rfl hnt (hf) (zzx hnt rfl ?_ (callG rfl rfl rfl rfl rfl rfl hnt rfl (fun hq => ?_) (fun hq => zLP (v.t.getD 0 0)) (zzx hnt rfl ?_ (Lex.nil _)))))) ?_
   ·exact zzt
   ·rw [zKd, hl]
    exact zza
   ·exact zza
   ·exact zzt
   have e : zDx v = zOW v.t := by unfold zDx; rw [if_pos hc]
   rw [e]
   repeat' apply zn
   refine ⟨(), trivial, zAh (ad := []) ⟨zzl, trivial⟩ trivial⟩
  simp only [zz] at hc
  (try simp only [zBU] at hc)
  (try simp only [zz] at hc)
  have k1 := hc
  repeat' first | refine zx ?_ | fail
  refine zc (fun hc => ?_) fun hc => ?_
  ·simp only [zz] at hc
   (try simp only [zBU] at hc)
   (try simp only [zz] at hc)
   refine zC (zR5 v.t hm _ zHS zQO) ?_
   have e : zDx v = zWd v.t := by unfold zDx; rw [if_neg k1, if_pos hc]
   rw [e]
   repeat' apply zn
   refine ⟨(), trivial, zAh (ad := []) ⟨zzl, trivial⟩ trivial⟩
  simp only [zz] at hc
  (try simp only [zBU] at hc)
  (try simp only [zz] at hc)
  have k2 := hc
  repeat' first | refine zx ?_ | fail
  refine zc (fun hc => ?_) fun hc => ?_
  ·simp only [zz] at hc
   (try simp only [zBU] at hc)
   (try simp only [zz] at hc)
   have e : zDx v = decide (0 <= v.i) := by unfold zDx; rw [if_neg k1, if_neg k2, if_pos hc]
   rw [e]
   repeat' first | refine zx ?_ | apply zn
   repeat' apply zn
   refine ⟨(), trivial, zAh (ad := []) ⟨zzl, trivial⟩ trivial⟩
  simp only [zz] at hc
  (try simp only [zBU] at hc)
  (try simp only [zz] at hc)
  have k3 := hc
  repeat' first | refine zx ?_ | fail
  refine zc (fun hc => ?_) fun hc => ?_
  ·simp only [zz] at hc
   (try simp only [zBU] at hc)
   (try simp only [zz] at hc)
   have e : zDx v = vld v.t := by unfold zDx; rw [if_neg k1, if_neg k2, if_neg k3, if_pos hc]
   rw [e]
   refine zV (zGa v.t) ?_
   repeat' apply zn
   refine ⟨(), trivial, zAh (ad := []) ⟨zzl, trivial⟩ trivial⟩
  simp only [zz] at hc
  (try simp only [zBU] at hc)
  (try simp only [zz] at hc)
  have k4 := hc
  repeat' first | refine zx ?_ | fail
  refine zc (fun hc => ?_) fun hc => ?_
  ·simp only [zz] at hc
   (try simp only [zBU] at hc)
   (try simp only [zz] at hc)
   have e : zDx v = decide (chk ⟨3, 0, v.b, []⟩ = 0) := by unfold zDx; rw [if_neg k1, if_neg k2, if_neg k3, if_neg k4, if_pos hc]
   rw [e]
   refine zV (zI1 ⟨3, 0, v.b, []⟩) ?_
   repeat' apply zn
   refine ⟨(), trivial, zAh (ad := []) ⟨zzl, trivial⟩ trivial⟩
  simp only [zz] at hc
  (try simp only [zBU] at hc)
  (try simp only [zz] at hc)
  have k5 := hc
  repeat' first | refine zx ?_ | fail
  refine zc (fun hc => ?_) fun hc => ?_
  ·simp only [zz] at hc
   (try simp only [zBU] at hc)
   (try simp only [zz] at hc)
   have e : zDx v = zRQ v.t := by unfold zDx; rw [if_neg k1, if_neg k2, if_neg k3, if_neg k4, if_neg k5]
   rw [e]
   refine zC (zQa v.t) ?_
   repeat' apply zn
   refine ⟨(), trivial, zAh (ad := []) ⟨zzl, trivial⟩ trivial⟩
  simp only [zz] at hc
  (try simp only [zBU] at hc)
  (try simp only [zz] at hc)
  exact absurd hk (by omega)
 rintro _ _
 repeat' first | refine zx ?_ | apply zn
 generalize zDx v = o
 cases o with
 | true =>
  refine zAj rfl (fun h => nomatch (show false = true from h)) (fun _ => ?_)
  repeat' first | refine zx ?_ | apply zn
  exact zAb ⟨.inr rfl, _, _, rfl, trivial, rfl⟩
 | false =>
  refine zAj rfl (fun _ => ?_) (fun h => nomatch (show true = false from h))
  repeat' first | refine zx ?_ | apply zn
  exact zAb ⟨.inr rfl, _, _, rfl, trivial, rfl⟩
def U0 (v : Tok) : Tok := ⟨v.k, if v.k = 3 \/ v.k = 5 then [] else v.t, if v.k = 3 then v.i else 0, if v.k = 5 then v.b else 0⟩
def zHl (v : Tok) : Bool := decide ((v.k = 4 /\ 40 < v.t.length) \/ ((v.k = 1 \/ v.k = 2) /\ 8 < v.t.length))
theorem zXG (v w : Tok) : (eqD tab 9 72 (.agg (.es (List.take 4 (List.drop 0 (zBO v))))) (.agg (.es (List.take 4 (List.drop 0 (zBO w)))))).1 :=
 ⟨⟨Nat.le_of_ble_eq_true rfl, rfl⟩, ⟨Nat.le_of_ble_eq_true rfl, rfl⟩, rfl, ⟨Nat.le_of_ble_eq_true rfl, rfl⟩, ⟨Nat.le_of_ble_eq_true rfl, rfl⟩, trivial, ⟨Nat.le_of_ble_eq_true rfl, rfl⟩, ⟨Nat.le_of_ble_eq_true rfl, rfl⟩, rfl, ⟨Nat.le_of_ble_eq_true rfl, rfl⟩, ⟨Nat.le_of_ble_eq_true rfl, rfl⟩, rfl, trivial⟩
theorem zXF (v w : Tok) : (eqD tab 9 72 (.agg (.es (List.take 4 (List.drop 0 (zBO v))))) (.agg (.es (List.take 4 (List.drop 0 (zBO w)))))).2 = decide (v.k = w.k /\ v.t = w.t /\ v.i = w.i /\ v.b.toNat = w.b.toNat) := by
 show (v.k == w.k && (zA1 (zA5 v.t) (zA5 w.t) && (v.i == w.i && ((v.b.toNat : Int) == (w.b.toNat : Int) && true)))) = _
 rw [zAY, Bool.eq_iff_iff]
 simp
 omega
theorem zOV (s : Byt) : zRR s = zOW s := by
 unfold zRR zOW
 cases decide (s.length ≠ 0) <;> cases s.all zKZ <;> cases zHB (s.getD 0 0) <;> rfl
theorem zPs (b : BitVec 64) : decide (chk ⟨3, 0, b, []⟩ = 0) = !zPS b := by
 unfold chk
 rw [zPC]
 cases h : zPS b <;> simp
theorem zSf {v : Tok} (h1 : 1 <= v.k) (h6 : v.k <= 6) : tkF v = if zHl v = true then 1 else if (bif !zDx v then true else !decide (v.k = (U0 v).k /\ v.t = (U0 v).t /\ v.i = (U0 v).i /\ v.b.toNat = (U0 v).b.toNat)) = true then 3 else 0 := by
 unfold tkF zHl
 rw [if_neg (by omega)]
 simp only [zz]
 by_cases hl : (v.k = 4 /\ 40 < v.t.length) \/ ((v.k = 1 \/ v.k = 2) /\ 8 < v.t.length)
 ·rw [if_pos hl, if_pos hl]
 ·rw [if_neg hl, if_neg hl]
  have hu : (v.k = (U0 v).k /\ v.t = (U0 v).t /\ v.i = (U0 v).i /\ v.b.toNat = (U0 v).b.toNat) ↔ ¬ (((v.k ≠ 3 /\ v.i ≠ 0) \/ (v.k ≠ 5 /\ v.b.toNat ≠ 0)) \/ ((v.k = 3 \/ v.k = 5) /\ v.t.length ≠ 0)) := by
   have hn : v.t = [] ↔ v.t.length = 0 := List.length_eq_zero_iff.symm
   have hz : (0 : BitVec 64).toNat = 0 := rfl
   unfold U0
   dsimp only
   by_cases k3 : v.k = 3
   ·rw [if_pos (.inl k3), if_pos k3, if_neg (by omega), hz, hn]
    omega
   ·by_cases k5 : v.k = 5
    ·rw [if_pos (.inr k5), if_neg k3, if_pos k5, hn]
     omega
    ·rw [if_neg (by omega), if_neg k3, if_neg k5, hz, eq_self v.t, true_and]
     omega
  by_cases hx : ((v.k ≠ 3 /\ v.i ≠ 0) \/ (v.k ≠ 5 /\ v.b.toNat ≠ 0)) \/ ((v.k = 3 \/ v.k = 5) /\ v.t.length ≠ 0)
  ·rw [if_pos hx, if_pos (.inr (fun h => hu.1 h hx))]
  ·rw [if_neg hx]
   cases ho : zDx v with
   | true => rw [if_pos rfl, if_neg]; rintro (h | h); cases h; exact h (hu.2 hx)
   | false => rw [if_neg Bool.false_ne_true, if_pos (.inl rfl)]
theorem zId (v : Tok) (hm : v.t.length <= maxLen) : FnG Tryz.prog 92 gK [.agg (.es (zBO v))] (.one (.e (eI (tkF v)))) := by
 refine zG 84 Tryz.func92 fun X hnt => ?_
 have hl : (zA5 v.t).size = v.t.length := zAJ v.t
 refine zx ?_
 refine zx ?_
 refine zx ?_
 refine zx ?_
 refine zx ?_
 first | refine zBy (σ := Bool × Bool) (fun x => St.of [(1, .one (.ptr 1 0 0)), (3, .v (.bool x.1)), (4, .one (.ptr 4 0 0)), (5, .v (.bool x.2)), ((1000000 + 5), .one (.eptr fsE)), ((1000000 + 6), .one (.eptr acE))] [(1, ⟨0, .box (.es (zBO v)), 0⟩), (4, ⟨0, .box (.es (zBO (U0 v))), 0⟩)]) (fun x => (1 <= v.k /\ v.k <= 6) /\ x.1 = zHl v /\ x.2 = zDx v) ?_ ?_ | refine zDI (zBy (σ := Bool × Bool) (fun x => St.of [(1, .one (.ptr 1 0 0)), (3, .v (.bool x.1)), (4, .one (.ptr 4 0 0)), (5, .v (.bool x.2)), ((1000000 + 5), .one (.eptr fsE)), ((1000000 + 6), .one (.eptr acE))] [(1, ⟨0, .box (.es (zBO v)), 0⟩), (4, ⟨0, .box (.es (zBO (U0 v))), 0⟩)]) (fun x => (1 <= v.k /\ v.k <= 6) /\ x.1 = zHl v /\ x.2 = zDx v) ?_ ?_)
 ·repeat' first | refine zx ?_ | fail
  refine zc (fun hc => ?_) fun hc => ?_
  ·simp only [zz] at hc
   (try simp only [zBU] at hc)
   (try simp only [zz] at hc)
   have w0 : U0 v = ⟨v.k, v.t, 0, 0⟩ := by unfold U0; rw [if_neg (by omega), if_neg (by omega), if_neg (by omega)]
   have hlg : zHl v = decide ((8 : Int) < (v.t.length : Int)) := by unfold zHl; rw [Bool.eq_iff_iff, decide_eq_true_eq, decide_eq_true_eq]; omega
   have hok : zDx v = zRR v.t := by unfold zDx; rw [if_pos hc, zOV]
   have hk := hc
   refine zc (fun hc => ?_) fun hc => ?_
   ·refine zx ?_
    refine zx ?_
    refine zC (zFd v.t hm) ?_
    refine zx ?_
    refine zc (fun hc => ?_) fun hc => ?_
    ·simp only [zz] at hc
     (try simp only [zBU] at hc)
     (try simp only [zz] at hc)
     omega
    repeat' apply zn
    rw [zKd, hl]
    refine ⟨(zHl v, zDx v), ⟨by omega, rfl, rfl⟩, zAh (ad := []) ⟨⟨rfl, rfl, rfl, rfl, rfl⟩, ?_, ⟨rfl, rfl, rfl, rfl, rfl⟩, ?_, rfl, rfl, trivial⟩ (zAg rfl rfl rfl (zAg rfl rfl (by rw [w0]; rfl) trivial))⟩
    ·exact congrArg (fun z : Bool => E.v (.bool z)) (by first | (rw [hlg]; done) | (rw [hlg]; rfl))
    ·exact congrArg (fun z : Bool => E.v (.bool z)) (by first | (rw [hok]; done) | (rw [hok]; rfl))
   simp only [zz] at hc
   (try simp only [zBU] at hc)
   (try simp only [zz] at hc)
   exact absurd hk hc
  simp only [zz] at hc
  (try simp only [zBU] at hc)
  (try simp only [zz] at hc)
  have k1 := hc
  repeat' first | refine zx ?_ | fail
  refine zc (fun hc => ?_) fun hc => ?_
  ·simp only [zz] at hc
   (try simp only [zBU] at hc)
   (try simp only [zz] at hc)
   have w0 : U0 v = ⟨v.k, v.t, 0, 0⟩ := by unfold U0; rw [if_neg (by omega), if_neg (by omega), if_neg (by omega)]
   have hlg : zHl v = decide ((8 : Int) < (v.t.length : Int)) := by unfold zHl; rw [Bool.eq_iff_iff, decide_eq_true_eq, decide_eq_true_eq]; omega
   have hok : zDx v = (bif !decide (v.t.length = 0) then v.t.all zHS else false) := by
    unfold zDx zWd
    rw [if_neg k1, if_pos hc]
    by_cases hz : v.t.length = 0
    ·simp [hz]
    ·simp [hz]
   refine zx ?_
   refine zx ?_
   refine zC (zFd v.t hm) ?_
   refine zx ?_
   refine zc (fun hc => ?_) fun hc => ?_
   ·repeat' apply zn
    refine zAK (T := tab) tOk hnt zAO (zA2 (T := tab) rfl ?_ (zEF rfl rfl rfl rfl rfl rfl rfl rfl (fun hq => ?_) (fun hq => zL1 v.t zO2 hm (by decide)) (zA2 (T := tab) rfl ?_ (.nil _)))) (by decide +kernel) ?_
    ·exact zza
    ·exact zzt
    ·exact zza
    repeat' apply zn
    rw [zKd, hl, zAD, zIm, show amg zO2 = zHS from funext zPH]
    refine ⟨(zHl v, zDx v), ⟨by omega, rfl, rfl⟩, zAh (ad := []) ⟨⟨rfl, rfl, rfl, rfl, rfl⟩, ?_, ⟨rfl, rfl, rfl, rfl, rfl⟩, ?_, rfl, rfl, trivial⟩ (zAg rfl rfl rfl (zAg rfl rfl (by rw [w0]; rfl) trivial))⟩
    ·exact congrArg (fun z : Bool => E.v (.bool z)) (by first | (rw [hlg]; done) | (rw [hlg]; rfl))
    ·exact congrArg (fun z : Bool => E.v (.bool z)) (by first | (rw [hok]; done) | (rw [hok]; rfl))
   simp only [zz] at hc
   (try simp only [zBU] at hc)
   (try simp only [zz] at hc)
   omega
  simp only [zz] at hc
  (try simp only [zBU] at hc)
  (try simp only [zz] at hc)
  have k2 := hc
  repeat' first | refine zx ?_ | fail
  refine zc (fun hc => ?_) fun hc => ?_
  ·simp only [zz] at hc
   (try simp only [zBU] at hc)
   (try simp only [zz] at hc)
   have w0 : U0 v = ⟨v.k, [], v.i, 0⟩ := by unfold U0; rw [if_pos (by omega), if_pos hc, if_neg (by omega)]
   have hlg : zHl v = false := by unfold zHl; exact decide_eq_false (by omega)
   have hok : zDx v = decide (0 <= v.i) := by unfold zDx; rw [if_neg k1, if_neg k2, if_pos hc]
   refine zx ?_
   refine zx ?_
   repeat' apply zn
   refine ⟨(zHl v, zDx v), ⟨by omega, rfl, rfl⟩, zAh (ad := []) ⟨⟨rfl, rfl, rfl, rfl, rfl⟩, ?_, ⟨rfl, rfl, rfl, rfl, rfl⟩, ?_, rfl, rfl, trivial⟩ (zAg rfl rfl rfl (zAg rfl rfl (by rw [w0]; rfl) trivial))⟩
   ·exact congrArg (fun z : Bool => E.v (.bool z)) (by first | (rw [hlg]; done) | (rw [hlg]; rfl))
   ·exact congrArg (fun z : Bool => E.v (.bool z)) (by first | (rw [hok]; done) | (rw [hok]; rfl))
  simp only [zz] at hc
  (try simp only [zBU] at hc)
  (try simp only [zz] at hc)
  have k3 := hc
  repeat' first | refine zx ?_ | fail
  refine zc (fun hc => ?_) fun hc => ?_
  ·simp only [zz] at hc
   (try simp only [zBU] at hc)
   (try simp only [zz] at hc)
   have w0 : U0 v = ⟨v.k, v.t, 0, 0⟩ := by unfold U0; rw [if_neg (by omega), if_neg (by omega), if_neg (by omega)]
   have hlg : zHl v = decide ((40 : Int) < (v.t.length : Int)) := by unfold zHl; rw [Bool.eq_iff_iff, decide_eq_true_eq, decide_eq_true_eq]; omega
   have hok : zDx v = vld v.t := by unfold zDx; rw [if_neg k1, if_neg k2, if_neg k3, if_pos hc]
   refine zx ?_
   refine zx ?_
   refine zV (zGa v.t) ?_
   repeat' apply zn
   rw [zKd, hl]
   refine ⟨(zHl v, zDx v), ⟨by omega, rfl, rfl⟩, zAh (ad := []) ⟨⟨rfl, rfl, rfl, rfl, rfl⟩, ?_, ⟨rfl, rfl, rfl, rfl, rfl⟩, ?_, rfl, rfl, trivial⟩ (zAg rfl rfl rfl (zAg rfl rfl (by rw [w0]; rfl) trivial))⟩
   ·exact congrArg (fun z : Bool => E.v (.bool z)) (by first | (rw [hlg]; done) | (rw [hlg]; rfl))
   ·exact congrArg (fun z : Bool => E.v (.bool z)) (by first | (rw [hok]; done) | (rw [hok]; rfl))
  simp only [zz] at hc
  (try simp only [zBU] at hc)
  (try simp only [zz] at hc)
  have k4 := hc
  repeat' first | refine zx ?_ | fail
  refine zc (fun hc => ?_) fun hc => ?_
  ·simp only [zz] at hc
   (try simp only [zBU] at hc)
   (try simp only [zz] at hc)
   have w0 : U0 v = ⟨v.k, [], 0, v.b⟩ := by unfold U0; rw [if_pos (by omega), if_neg k3, if_pos hc]
   have hlg : zHl v = false := by unfold zHl; exact decide_eq_false (by omega)
   have hok : zDx v = !zPS v.b := by unfold zDx; rw [if_neg k1, if_neg k2, if_neg k3, if_neg k4, if_pos hc, zPs]
   refine zx ?_
   refine zC (zH3 v.b) ?_
   repeat' apply zn
   refine ⟨(zHl v, zDx v), ⟨by omega, rfl, rfl⟩, zAh (ad := []) ⟨⟨rfl, rfl, rfl, rfl, rfl⟩, ?_, ⟨rfl, rfl, rfl, rfl, rfl⟩, ?_, rfl, rfl, trivial⟩ (zAg rfl rfl rfl (zAg rfl rfl (by rw [w0]; rfl) trivial))⟩
   ·exact congrArg (fun z : Bool => E.v (.bool z)) (by first | (rw [hlg]; done) | (rw [hlg]; rfl))
   ·exact congrArg (fun z : Bool => E.v (.bool z)) (by first | (rw [hok]; done) | (rw [hok]; rfl))
  simp only [zz] at hc
  (try simp only [zBU] at hc)
  (try simp only [zz] at hc)
  have k5 := hc
  repeat' first | refine zx ?_ | fail
  refine zc (fun hc => ?_) fun hc => ?_
  ·simp only [zz] at hc
   (try simp only [zBU] at hc)
   (try simp only [zz] at hc)
   have w0 : U0 v = ⟨v.k, v.t, 0, 0⟩ := by unfold U0; rw [if_neg (by omega), if_neg (by omega), if_neg (by omega)]
   have hlg : zHl v = false := by unfold zHl; exact decide_eq_false (by omega)
   have hok : zDx v = zRQ v.t := by unfold zDx; rw [if_neg k1, if_neg k2, if_neg k3, if_neg k4, if_neg k5]
   refine zx ?_
   refine zC (zOU v.t) ?_
   repeat' apply zn
   refine ⟨(zHl v, zDx v), ⟨by omega, rfl, rfl⟩, zAh (ad := []) ⟨⟨rfl, rfl, rfl, rfl, rfl⟩, ?_, ⟨rfl, rfl, rfl, rfl, rfl⟩, ?_, rfl, rfl, trivial⟩ (zAg rfl rfl rfl (zAg rfl rfl (by rw [w0]; rfl) trivial))⟩
   ·exact congrArg (fun z : Bool => E.v (.bool z)) (by first | (rw [hlg]; done) | (rw [hlg]; rfl))
   ·exact congrArg (fun z : Bool => E.v (.bool z)) (by first | (rw [hok]; done) | (rw [hok]; rfl))
  simp only [zz] at hc
  (try simp only [zBU] at hc)
  (try simp only [zz] at hc)
  have ht : tkF v = 2 := by unfold tkF; rw [if_pos (by omega)]
  rw [ht]
  repeat' first | refine zx ?_ | apply zn
  exact zAb ⟨.inr rfl, _, _, rfl, trivial, rfl⟩
 rintro ⟨lg, ok⟩ ⟨⟨h1, h6⟩, e1, e2⟩
 dsimp only at e1 e2 ⊢
 rw [zSf h1 h6, <-e1, <-e2]
 repeat' first | refine zx ?_ | apply zn
 cases lg with
 | true =>
  refine zAj rfl (fun _ => ?_) (fun h => nomatch (show true = false from h))
  repeat' first | refine zx ?_ | apply zn
  exact zAb ⟨.inr rfl, _, _, rfl, trivial, rfl⟩
 | false =>
 refine zAj rfl (fun h => nomatch (show false = true from h)) (fun _ => ?_)
 rw [if_neg Bool.false_ne_true]
 have q1 := zXG v (U0 v)
 refine zxa ?_
 rw [zXF]
 refine zc (fun hc => ?_) fun hc => ?_
 ·rw [if_pos hc]
  repeat' first | refine zx ?_ | apply zn
  exact zAb ⟨.inr rfl, _, _, rfl, trivial, rfl⟩
 rw [if_neg (by rw [hc]; exact Bool.false_ne_true)]
 repeat' first | refine zx ?_ | apply zn
 exact zAb ⟨.inr rfl, _, _, rfl, trivial, rfl⟩
def tOf (x : Int × ByteArray × Int × Int × Unit) : Tok := ⟨x.1, x.2.1.data.toList, x.2.2.1, BitVec.ofInt 64 x.2.2.2.1⟩
abbrev zTp : Cd (Int × ByteArray × Int × Int × Unit) := zER (zDv (zLs .i64) (zDv zS6 (zDv (zLs .i64) (zDv (zLs .u64) zS7))))
theorem zRz {w : World} {S : Nat -> Prop} {cs : List Value} {x : Int × ByteArray × Int × Int × Unit} (h : zTp.rel w S cs x) : x.2.1.size <= maxLen /\ 0 <= x.2.2.2.1 /\ x.2.2.2.1 < 18446744073709551616 := by
 obtain ⟨_, _, rfl, ⟨_, h1⟩, _, _, rfl, ⟨_, h2⟩, _, _, rfl, ⟨_, h3⟩, _, _, rfl, ⟨_, h4⟩, _⟩ := h
 exact ⟨h2, zTF h4⟩
theorem zUZ : Enc zTp (fun x => zBO (tOf x)) :=
 (zNz (zGn (zLj .i64) (zGn zSW (zGn (zLj .i64) (zGn (zLj .u64) zSX))))).of fun {w S cs x} h => by
  obtain ⟨_, h3, h4⟩ := zRz h
  show [E.v (.int .i64 x.1), E.v (.string x.2.1), E.v (.int .i64 x.2.2.1), E.v (.int .u64 x.2.2.2.1)] = [E.v (.int .i64 x.1), E.v (.string x.2.1), E.v (.int .i64 x.2.2.1), E.v (.int .u64 ((BitVec.ofInt 64 x.2.2.2.1).toNat : Int))]
  rw [show ((BitVec.ofInt 64 x.2.2.2.1).toNat : Int) = x.2.2.2.1 by rw [BitVec.toNat_ofInt]; omega]
theorem zUE {w : World} {S : Nat -> Prop} {cs : List Value} {x : Int × ByteArray × Int × Int × Unit} (h : zTp.rel w S cs x) : (tOf x).t.length <= maxLen := (zRz h).1
structure Colm where
 n : Byt
 k : Int
 u : Bool
def eBl (b : Bool) : E := .v (.bool b)
def zCm (c : Colm) : List E := [eT c.n, eI c.k, eBl c.u]
def zPf (l : List Colm) : E := .sl (l.map zCm)
def zPR : Colm := ⟨[], 0, false⟩
def zBD : Val := ⟨0, 0, 0, []⟩
theorem zLp (l : List Colm) (i : Nat) (h : i < l.length) : (l.map zCm).getD i [] = zCm (l.getD i zPR) := by
 rw [List.getD_eq_getElem?_getD, List.getElem?_map, List.getElem?_eq_getElem h, List.getD_eq_getElem?_getD, List.getElem?_eq_getElem h]
 rfl
theorem zFL (l : List Colm) : (l.map zCm).length = l.length := List.length_map ..
def zC2 (s : Byt) : Prop := zRR s = true /\ s.length <= 8
instance (s : Byt) : Decidable (zC2 s) := inferInstanceAs (Decidable (_ /\ _))
theorem zLM (s : Byt) : tkF ⟨1, s, 0, 0⟩ = 0 ↔ zC2 s := by
 unfold tkF zC2 zDx
 rw [zOV]
 dsimp only
 rw [if_neg (by omega)]
 by_cases h : 8 < s.length
 ·rw [if_pos (by omega)]
  exact iff_of_false (by decide) (by omega)
 ·rw [if_neg (by omega), if_neg (by simp), if_pos rfl]
  cases zOW s with
  | true => exact iff_of_true rfl ⟨rfl, by omega⟩
  | false => exact iff_of_false (by decide) (fun h => Bool.false_ne_true h.1)
theorem zDR {α : Type} {l : List α} {i : Nat} {d : α} (h : i < l.length) : l.take (i + 1) = l.take i ++ [l.getD i d] := by
 rw [List.take_add_one, List.getElem?_eq_getElem h, List.getD_eq_getElem?_getD, List.getElem?_eq_getElem h]
 rfl
theorem zHH (r : List Val) : (r.map zBw).length = r.length := List.length_map ..
inductive Ex where
 | mk (op : Int) (v : Val) (n : Byt) (ar : List Ex)
def Ex.op : Ex -> Int | .mk o _ _ _ => o
def Ex.v : Ex -> Val | .mk _ v _ _ => v
def Ex.n : Ex -> Byt | .mk _ _ n _ => n
def Ex.ar : Ex -> List Ex | .mk _ _ _ a => a
def ex0 : Ex := .mk 0 zBD [] []
mutual
def eEx : Ex -> List E
 | .mk op v n ar => [eI op, eI v.k, eI v.i, eQ v.b, eT v.t, eT n, .sl (zBv ar)]
def zBv : List Ex -> List (List E)
 | [] => []
 | a :: r => eEx a :: zBv r
end
mutual
def zBY : Ex -> Nat
 | .mk _ _ _ ar => 1 + zBc ar
def zBc : List Ex -> Nat
 | [] => 0
 | a :: r => zBY a + zBc r
end
mutual
def ht : Ex -> Nat
 | .mk _ _ _ ar => 1 + htL ar
def htL : List Ex -> Nat
 | [] => 0
 | a :: r => max (ht a) (htL r)
end
mutual
def zDe : Ex -> Prop
 | .mk op v n ar => (-9223372036854775808 <= op /\ op <= 9223372036854775807) /\ v.fit /\ n.length <= maxLen /\ ar.length <= maxLen /\ zNy ar
def zNy : List Ex -> Prop
 | [] => True
 | a :: r => zDe a /\ zNy r
end
theorem zAp (x : Ex) : eEx x = [eI x.op, eI x.v.k, eI x.v.i, eQ x.v.b, eT x.v.t, eT x.n, .sl (zBv x.ar)] := by cases x; rw [eEx]; rfl
theorem zBz : ∀ l : List Ex, zBv l = l.map eEx
 | [] => rfl
 | a :: r => by rw [zBv, zBz r]; rfl
theorem zC8 (l : List Ex) : (zBv l).length = l.length := by rw [zBz, List.length_map]
theorem zHY (l : List Ex) (i : Nat) (h : i < l.length) : (zBv l).getD i [] = eEx (l.getD i ex0) := by
 rw [zBz, List.getD_eq_getElem?_getD, List.getElem?_map, List.getElem?_eq_getElem h, List.getD_eq_getElem?_getD, List.getElem?_eq_getElem h]
 rfl
theorem ex7 (x : Ex) : (eEx x).length = 7 := by rw [zAp]; rfl
theorem zXE (l : List Ex) : ∀ cs ∈ zBv l, cs.length = 7 := by
 intro cs h
 rw [zBz] at h
 obtain ⟨q, _, rfl⟩ := List.mem_map.1 h
 exact ex7 q
theorem zGi (x : Ex) : zBY x = 1 + zBc x.ar := by cases x; rw [zBY]; rfl
theorem zSN (x : Ex) : ht x = 1 + htL x.ar := by cases x; rw [ht]; rfl
theorem zGJ : ∀ {l : List Ex} {a : Ex}, a ∈ l -> zBY a <= zBc l
 | b :: r, a, h => by
  rw [zBc]
  rcases List.mem_cons.1 h with rfl | h
  ·omega
  ·have := zGJ h
   omega
theorem zRS : ∀ {l : List Ex} {a : Ex}, a ∈ l -> ht a <= htL l
 | b :: r, a, h => by
  rw [htL]
  rcases List.mem_cons.1 h with rfl | h
  ·omega
  ·have := zRS h
   omega
theorem zDl : ∀ l r : List Ex, zBc (l ++ r) = zBc l + zBc r
 | [], r => by rw [List.nil_append, zBc]; omega
 | a :: l, r => by rw [List.cons_append, zBc, zDl l r, zBc]; omega
theorem zLa : ∀ l r : List Ex, htL (l ++ r) = max (htL l) (htL r)
 | [], r => by rw [List.nil_append, htL]; omega
 | a :: l, r => by rw [List.cons_append, htL, zLa l r, htL]; omega
theorem zO7 (x : Ex) : zDe x ↔ (-9223372036854775808 <= x.op /\ x.op <= 9223372036854775807) /\ x.v.fit /\ x.n.length <= maxLen /\ x.ar.length <= maxLen /\ zNy x.ar := by cases x; rw [zDe]; exact Iff.rfl
theorem zMv : ∀ {l : List Ex} {a : Ex}, zNy l -> a ∈ l -> zDe a
 | b :: r, a, hl, h => by
  rw [zNy] at hl
  rcases List.mem_cons.1 h with rfl | h
  ·exact hl.1
  ·exact zMv hl.2 h
theorem zEl {α : Type} {l : List α} {i : Nat} {d : α} (h : i < l.length) : l.getD i d ∈ l := by
 rw [List.getD_eq_getElem?_getD, List.getElem?_eq_getElem h]
 exact List.getElem_mem h
theorem zIN (x : Ex) : List.take 7 (List.drop 0 (eEx x)) = eEx x := by
 rw [List.drop_zero]
 exact List.take_of_length_le (by rw [ex7]; exact Nat.le_refl _)
def zXL (n : Nat) (b : Bool) : D := .tup [(false, .es [eI (n : Int)]), (false, .es [eBl b])]
def zSm (x : Ex) (d : Nat) : Nat × Bool := if d + ht x <= 8 /\ zBY x <= 40 then (zBY x, true) else (0, false)
def rSz (r : Nat × Bool) : D := zXL r.1 r.2
theorem zOb (x : Ex) (d : Nat) (hL : x.ar.length <= maxLen) (ih : ∀ a ∈ x.ar, FnD Tryz.prog 88 [.agg (.es (eEx a)), .one (.e (eI ((d + 1 : Nat) : Int)))] (rSz (zSm a (d + 1)))) : FnD Tryz.prog 88 [.agg (.es (eEx x)), .one (.e (eI (d : Int)))] (rSz (zSm x d)) := by
 refine zD 38 Tryz.func88 fun X hnt => ?_
 have hml := zC8 x.ar
 unfold zSm
 have hn := zGi x
 have hh := zSN x
 unfold maxLen at hL
 rw [zAp]
 repeat' first | refine zx ?_ | fail
 refine zc (fun hc => ?_) fun hc => ?_
 ·simp only [zz] at hc
  rw [if_neg (by omega)]
  repeat' first | refine zx ?_ | apply zn
  exact zAb ⟨.inr rfl, _, _, rfl, trivial, rfl⟩
 simp only [zz] at hc
 repeat' first | refine zx ?_ | apply zn
 repeat' apply zn
 refine zAx (σ := Nat) (fun i => St.of [(1, .one (.e (eI (d : Int)))), (6, .one (.e (eI ((1 + zBc (x.ar.take i) : Nat) : Int)))), (14, .one (.e (.sl (zBv x.ar)))), (15, .one (.e (eI ((zBv x.ar).length : Int)))), (16, .one (.e (eI (i : Int))))] []) (fun i => i <= x.ar.length /\ d + htL (x.ar.take i) <= 7 /\ 1 + zBc (x.ar.take i) <= 40) (fun i => x.ar.length - i) (0) (zAh (ad := []) ⟨zzl, zzl, zzl, zzl, zzl, trivial⟩ trivial) ⟨Nat.zero_le _, by rw [List.take_zero, htL]; omega, by rw [List.take_zero, zBc]; omega⟩ ?_
 rintro i ⟨il, ih1, ih2⟩
 repeat' first | refine zx ?_ | fail
 refine zc (fun hc => ?_) fun hc => ?_
 ·simp only [zz] at hc
  (try simp only [hml] at hc)
  (try simp only [zz] at hc)
  have hlt : i < x.ar.length := by omega
  have hg := (zHY x.ar i hlt).trans (zAp _)
  have hmem := zEl (d := ex0) hlt
  have hf := ih _ hmem
  have t1 : htL (x.ar.take (i + 1)) = max (htL (x.ar.take i)) (ht (x.ar.getD i ex0)) := by
   rw [zDR (d := ex0) hlt, zLa, htL, htL]
   omega
  have t2 : zBc (x.ar.take (i + 1)) = zBc (x.ar.take i) + zBY (x.ar.getD i ex0) := by
   rw [zDR (d := ex0) hlt, zDl, zBc, zBc]
   omega
  have m1 := zGJ hmem
  have m2 := zRS hmem
  have m3 : zBc (x.ar.take (i + 1)) <= zBc x.ar := by
   have := zDl (x.ar.take (i + 1)) (x.ar.drop (i + 1))
   rw [List.take_append_drop] at this
   omega
  refine zy ?_ ?_
  ·rw [Int.toNat_natCast, hg, hml]
   exact zza
  rw [Int.toNat_natCast, hg]
  have hw : IntKind.i64.wrap ((d : Int) + 1) = ((d + 1 : Nat) : Int) := by rw [zAf (by omega) (by omega)]; rfl
  rw [<-hw, zAp] at hf
  generalize x.ar.getD i ex0 = a at *
  unfold zSm at hf
  by_cases hs : d + 1 + ht a <= 8 /\ zBY a <= 40
  ·rw [if_pos hs] at hf
   refine zC hf ?_
   have hw2 : IntKind.i64.wrap (((1 + zBc (List.take i x.ar) : Nat) : Int) + (zBY a : Int)) = ((1 + zBc (List.take (i + 1) x.ar) : Nat) : Int) := by rw [zAf (by omega) (by omega)]; omega
   refine zx ?_
   rw [hw2]
   refine zx ?_
   refine zc (fun hc => ?_) fun hc => ?_
   ·simp only [zz] at hc
    have hc : (40 : Int) < ((1 + zBc (List.take (i + 1) x.ar) : Nat) : Int) := by rcases hc with h | h; cases h; exact h
    rw [if_neg (by omega)]
    repeat' first | refine zx ?_ | apply zn
    exact zAb ⟨.inr rfl, _, _, rfl, trivial, rfl⟩
   simp only [zz] at hc
   repeat' first | refine zx ?_ | apply zn
   refine ⟨i + 1, ⟨by omega, by omega, by omega⟩, by omega, zAh (ad := []) ⟨zzl, zzl, zzl, zzl, zzl, trivial⟩ trivial⟩
  ·rw [if_neg hs] at hf
   refine zC hf ?_
   repeat' first | refine zx ?_ | apply zn
   refine zAj rfl (fun _ => ?_) (fun h => nomatch (show true = false from h))
   rw [if_neg (by omega)]
   repeat' first | refine zx ?_ | apply zn
   exact zAb ⟨.inr rfl, _, _, rfl, trivial, rfl⟩
 simp only [zz] at hc
 (try simp only [hml] at hc)
 (try simp only [zz] at hc)
 refine zAt ?_
 rw [List.take_of_length_le (by omega)] at *
 rw [if_pos ⟨by omega, by omega⟩, hn]
 repeat' first | refine zx ?_ | apply zn
 exact zAb ⟨.inr rfl, _, _, rfl, trivial, rfl⟩
theorem zCw {x : Ex} (h : zDe x) : x.ar.length <= maxLen /\ ∀ a ∈ x.ar, zDe a := by
 rw [zO7] at h
 exact ⟨h.2.2.2.1, fun a ha => zMv h.2.2.2.2 ha⟩
theorem zFc {x a : Ex} {m : Nat} (h : zBY x <= m + 1) (ha : a ∈ x.ar) : zBY a <= m := by
 have := zGJ ha
 rw [zGi] at h
 omega
theorem zE5 (x : Ex) : 1 <= zBY x := by rw [zGi]; omega
theorem zLQ : ∀ (m : Nat) (x : Ex), zBY x <= m -> zDe x -> ∀ d : Nat, FnD Tryz.prog 88 [.agg (.es (eEx x)), .one (.e (eI (d : Int)))] (rSz (zSm x d))
 | 0, x, h, _, _ => absurd h (by have := zE5 x; omega)
 | m + 1, x, h, ho, d => zOb x d (zCw ho).1 fun a ha => zLQ m a (zFc h ha) ((zCw ho).2 a ha) (d + 1)
theorem zSl (x : Ex) (h : zDe x) (d : Nat) : FnD Tryz.prog 88 [.agg (.es (eEx x)), .one (.e (eI (d : Int)))] (rSz (zSm x d)) := zLQ (zBY x) x (Nat.le_refl _) h d
def nxt (l : List Ex) : List Ex := l.flatMap Ex.ar
theorem zL8 (a : Ex) (r : List Ex) : nxt (a :: r) = a.ar ++ nxt r := rfl
theorem zFw : ∀ l : List Ex, zBc l = l.length + zBc (nxt l)
 | [] => rfl
 | a :: r => by rw [zBc, zFw r, zGi, zL8, zDl, List.length_cons]; omega
theorem zK9 : ∀ l : List Ex, l ≠ [] -> htL l = 1 + htL (nxt l)
 | [], h => absurd rfl h
 | [a], _ => by
  have : nxt [a] = a.ar := List.append_nil _
  rw [htL, htL, zSN, this]
  omega
 | a :: b :: r, _ => by rw [htL, zK9 (b :: r) (by simp), zSN, zL8 a (b :: r), zLa]; omega
theorem zNh : ∀ l : List Ex, l.length <= zBc l := fun l => by rw [zFw]; omega
theorem zIY : ∀ l r : List Ex, zBv (l ++ r) = zBv l ++ zBv r := fun l r => by rw [zBz, List.map_append, <-zBz, <-zBz]
theorem zJh (x : Ex) : FnD Tryz.prog 36 [.agg (.es (eEx x))] (.v (.bool (decide (ht x <= 7 /\ zBY x <= 40)))) := by
 refine zD 45 Tryz.func36 fun X hnt => ?_
 have hx7 := ex7 x
 have f1 : (Cs.es (eEx x)).len = 7 := hx7
 have f2 : 0 + 7 <= (Cs.es (eEx x)).len := by rw [f1]; exact Nat.le_refl _
 have f3 : (List.take 7 (List.drop 0 (eEx x))).length = 7 := by rw [zIN]; exact hx7
 refine zx ?_
 refine zxa ?_
 rw [zIN]
 refine zx ?_
 refine zx ?_
 refine zAq (zRP 3 rfl rfl) ?_
 repeat' apply zn
 refine zAx (σ := List Ex × Nat × Nat) (fun y => St.of [(3, .one (.e (.sl (zBv y.1)))), (4, .one (.e (eI (y.2.1 : Int)))), (5, .one (.e (eI (y.2.2 : Int))))] []) (fun y => y.2.1 + zBc y.1 = zBY x /\ y.2.2 + htL y.1 = ht x + 1 /\ y.2.1 <= 40 /\ y.2.2 <= 8 /\ y.1.length <= 40) (fun y => zBc y.1) (([x], 0, 1)) (zAh (ad := []) ⟨zzl, zzl, zzl, trivial⟩ trivial) ⟨by simp [zBc], by simp [htL]; omega, Nat.zero_le _, Nat.le_of_ble_eq_true rfl, Nat.le_of_ble_eq_true rfl⟩ ?_
 rintro ⟨row, all, deep⟩ ⟨j1, j2, j3, j4, j5⟩
 dsimp only at j1 j2 j3 j4 j5 ⊢
 have hrl := zC8 row
 have hpos := zFw row
 repeat' first | refine zx ?_ | fail
 refine zc (fun hc => ?_) fun hc => ?_
 ·simp only [zz] at hc
  (try simp only [hrl] at hc)
  (try simp only [zz] at hc)
  have hne : row ≠ [] := fun e => by rw [e] at hc; simp at hc
  have hht := zK9 row hne
  have hw : IntKind.i64.wrap ((all : Int) + ((zBv row).length : Int)) = ((all + row.length : Nat) : Int) := by rw [hrl, zAf (by omega) (by omega)]; rfl
  refine zx ?_
  rw [hw]
  refine zx ?_
  refine zc (fun hc => ?_) fun hc => ?_
  ·simp only [zz] at hc
   have : ¬ (ht x <= 7 /\ zBY x <= 40) := by
    have := zK9 row hne
    omega
   rw [decide_eq_false this]
   repeat' first | refine zx ?_ | apply zn
   exact zAb ⟨.inr rfl, _, _, rfl, trivial, rfl⟩
  simp only [zz] at hc
  repeat' first | refine zx ?_ | apply zn
  repeat' apply zn
  refine zAx (σ := Nat) (fun i => St.of [(4, .one (.e (eI ((all + row.length : Nat) : Int)))), (5, .one (.e (eI (deep : Int)))), (6, .one (.own 91 0)), (26, .one (.e (.sl (zBv row)))), (27, .one (.e (eI ((zBv row).length : Int)))), (28, .one (.e (eI (i : Int))))] [(91, ⟨0, .row 7 (zBv (nxt (row.take i))), 0⟩)]) (fun i => i <= row.length /\ (nxt (row.take i)).length <= 40) (fun i => row.length - i) (0) (zAh (ad := [91]) ⟨zzl, zzl, zzl, zzl, zzl, zzl, trivial⟩ zm) ⟨Nat.zero_le _, Nat.zero_le _⟩ ?_
  rintro i ⟨il, inx⟩
  repeat' first | refine zx ?_ | fail
  refine zc (fun hc => ?_) fun hc => ?_
  ·simp only [zz] at hc
   (try simp only [hrl] at hc)
   (try simp only [zz] at hc)
   have hlt : i < row.length := by omega
   have hg := (zHY row i hlt).trans (zAp _)
   have ht1 : nxt (row.take (i + 1)) = nxt (row.take i) ++ (row.getD i ex0).ar := by
    rw [zDR (d := ex0) hlt]
    unfold nxt
    rw [List.flatMap_append]
    simp
   have hsub : (nxt (row.take (i + 1))).length <= zBc (nxt row) := by
    have e : nxt row = nxt (row.take (i + 1)) ++ nxt (row.drop (i + 1)) := by
     unfold nxt
     rw [<-List.flatMap_append, List.take_append_drop]
    rw [e, zDl]
    have := zNh (nxt (row.take (i + 1)))
    omega
   rw [ht1, List.length_append] at hsub
   refine zy ?_ ?_
   ·rw [Int.toNat_natCast, hg, hrl]
    exact zza
   rw [Int.toNat_natCast, hg]
   generalize row.getD i ex0 = a at *
   have hal := zC8 a.ar
   refine zx ?_
   refine zc (fun hc => ?_) fun hc => ?_
   ·simp only [zz] at hc
    have hc : (40 : Int) < ((zBv a.ar).length : Int) := hc
    have : ¬ (ht x <= 7 /\ zBY x <= 40) := by omega
    rw [decide_eq_false this]
    repeat' first | refine zx ?_ | apply zn
    exact zAb ⟨.inr rfl, _, _, rfl, trivial, rfl⟩
   simp only [zz] at hc
   have hc : ¬ (40 : Int) < ((zBv a.ar).length : Int) := hc
   have e7 : ∀ cs ∈ zBv a.ar, cs.length = 7 := zXE a.ar
   have hnl := zC8 (nxt (row.take i))
   have b1 : (zBv (nxt (row.take i))).length + (zBv a.ar).length <= maxLen := by unfold maxLen; omega
   have b2 : ((zBv (nxt (row.take i))).length + (zBv a.ar).length) * 88 <= 140737488355328 := by omega
   refine zxa ?_
   refine zx ?_
   have hap : zBv (nxt (row.take (i + 1))) = zBv (nxt (row.take i)) ++ zBv a.ar := by rw [ht1, zIY]
   have hnl1 := zC8 (nxt (row.take (i + 1)))
   rw [ht1, List.length_append] at hnl1
   refine zc (fun hc => ?_) fun hc => ?_
   ·have hc : decide ((40 : Int) < ((zBv (nxt (row.take i)) ++ zBv a.ar).length : Int)) = true := hc
    simp only [zz] at hc
    rw [List.length_append] at hc
    have : ¬ (ht x <= 7 /\ zBY x <= 40) := by omega
    rw [decide_eq_false this]
    repeat' first | refine zx ?_ | apply zn
    exact zAb ⟨.inr rfl, _, _, rfl, trivial, rfl⟩
   have hc : decide ((40 : Int) < ((zBv (nxt (row.take i)) ++ zBv a.ar).length : Int)) = false := hc
   simp only [zz] at hc
   rw [List.length_append] at hc
   repeat' first | refine zx ?_ | apply zn
   refine ⟨i + 1, ⟨by omega, by rw [ht1, List.length_append]; omega⟩, by omega, zAh (ad := []) ⟨zzl, zzl, zzl, zzl, zzl, zzl, trivial⟩ (zAe rfl rfl hap.symm trivial)⟩
  simp only [zz] at hc
  (try simp only [hrl] at hc)
  (try simp only [zz] at hc)
  refine zAt ?_
  have htk : row.take i = row := List.take_of_length_le (by omega)
  rw [htk] at inx ⊢
  refine zx ?_
  refine zx ?_
  have hw3 : IntKind.i64.wrap ((deep : Int) + 1) = ((deep + 1 : Nat) : Int) := by rw [zAf (by omega) (by omega)]; rfl
  rw [hw3]
  repeat' apply zn
  refine ⟨(nxt row, all + row.length, deep + 1), ⟨by dsimp only; omega, by dsimp only; omega, by dsimp only; omega, by dsimp only; omega, inx⟩, by dsimp only; omega, Le.trans (zRP 3 rfl rfl) (zAh (ad := []) zzi trivial)⟩
 simp only [zz] at hc
 (try simp only [hrl] at hc)
 (try simp only [zz] at hc)
 refine zAt ?_
 obtain rfl : row = [] := List.eq_nil_of_length_eq_zero (by omega)
 have : ht x <= 7 /\ zBY x <= 40 := by simp only [zBc, htL] at j1 j2; omega
 rw [decide_eq_true this]
 repeat' first | refine zx ?_ | apply zn
 exact zAb ⟨.inr rfl, _, _, rfl, trivial, rfl⟩
def zEV (op : Int) : Int := if op = 1 \/ op = 2 then 0 else if op = 3 \/ op = 4 \/ op = 17 \/ op = 18 then 1 else 2
theorem zPY (op : Int) : FnD Tryz.prog 113 [.one (.e (eI op))] (.one (.e (eI (zEV op)))) := by
 refine zD 12 Tryz.func113 fun X hnt => ?_
 unfold zEV
 repeat' first | refine zx ?_ | fail
 refine zc (fun hc => ?_) fun hc => ?_
 ·simp only [zz] at hc
  refine zc (fun hc => ?_) fun hc => ?_
  ·rw [if_pos (by omega)]
   repeat' first | refine zx ?_ | apply zn
   exact zAb ⟨.inr rfl, _, _, rfl, trivial, rfl⟩
  simp only [zz] at hc
  exact absurd ‹op = 1› hc
 simp only [zz] at hc
 repeat' first | refine zx ?_ | fail
 refine zc (fun hc => ?_) fun hc => ?_
 ·simp only [zz] at hc
  rw [if_pos (by omega)]
  repeat' first | refine zx ?_ | apply zn
  exact zAb ⟨.inr rfl, _, _, rfl, trivial, rfl⟩
 simp only [zz] at hc
 rw [if_neg (by omega)]
 repeat' first | refine zx ?_ | fail
 refine zc (fun hc => ?_) fun hc => ?_
 ·simp only [zz] at hc
  have h := hc
  refine zc (fun hc => ?_) fun hc => ?_
  ·rw [if_pos (by omega)]
   repeat' first | refine zx ?_ | apply zn
   exact zAb ⟨.inr rfl, _, _, rfl, trivial, rfl⟩
  simp only [zz] at hc
  exact absurd h hc
 simp only [zz] at hc
 repeat' first | refine zx ?_ | fail
 refine zc (fun hc => ?_) fun hc => ?_
 ·simp only [zz] at hc
  have h := hc
  refine zc (fun hc => ?_) fun hc => ?_
  ·rw [if_pos (by omega)]
   repeat' first | refine zx ?_ | apply zn
   exact zAb ⟨.inr rfl, _, _, rfl, trivial, rfl⟩
  simp only [zz] at hc
  exact absurd h hc
 simp only [zz] at hc
 repeat' first | refine zx ?_ | fail
 refine zc (fun hc => ?_) fun hc => ?_
 ·simp only [zz] at hc
  have h := hc
  refine zc (fun hc => ?_) fun hc => ?_
  ·rw [if_pos (by omega)]
   repeat' first | refine zx ?_ | apply zn
   exact zAb ⟨.inr rfl, _, _, rfl, trivial, rfl⟩
  simp only [zz] at hc
  exact absurd h hc
 simp only [zz] at hc
 repeat' first | refine zx ?_ | fail
 refine zc (fun hc => ?_) fun hc => ?_
 ·simp only [zz] at hc
  rw [if_pos (by omega)]
  repeat' first | refine zx ?_ | apply zn
  exact zAb ⟨.inr rfl, _, _, rfl, trivial, rfl⟩
 simp only [zz] at hc
 rw [if_neg (by omega)]
 repeat' first | refine zx ?_ | apply zn
 exact zAb ⟨.inr rfl, _, _, rfl, trivial, rfl⟩
abbrev zv (v : Val) : Prop := v.k = 0 /\ v.i = 0 /\ v.b.toNat = 0 /\ v.t.length = 0
def zvB (v : Val) : Bool := (eqD tab 9 28 (.agg (.es (List.take 4 (List.drop 0 (zBw v))))) (.agg (.es (List.take 4 (List.drop 0 (zBw zBD)))))).2
theorem zHz (v : Val) : zvB v = decide (zv v) := by
 unfold zvB
 rw [zVv, Bool.eq_iff_iff, decide_eq_true_eq, decide_eq_true_eq]
 unfold zBD zv
 dsimp only
 rw [show v.t = [] ↔ v.t.length = 0 from List.length_eq_zero_iff.symm]
 exact Iff.rfl
theorem zPz {p q : Prop} [Decidable p] [Decidable q] : (decide p == !decide q) = decide (p ↔ ¬ q) := by
 by_cases hp : p <;> by_cases hq : q <;> simp [hp, hq]
def zDN (x : Ex) : Int :=
 if x.op < 1 \/ 20 < x.op then 2
 else if (x.ar.length : Int) ≠ zEV x.op then 3
 else if ¬ (x.op = 2 ↔ x.n.length ≠ 0) \/ (x.op ≠ 1 /\ ¬ zv x.v) then 3
 else if x.op = 2 /\ ¬ zC2 x.n then 3
 else if x.op = 1 /\ (chk x.v ≠ 0 \/ x.v.i < 0) then 3 else 0
theorem zSy (x : Ex) (hn : x.n.length <= maxLen) : FnG Tryz.prog 107 gK [.agg (.es (eEx x))] (.one (.e (eI (zDN x)))) := by
 refine zG 61 Tryz.func107 fun X hnt => ?_
 have hml := zC8 x.ar
 unfold zDN
 rw [zAp]
 repeat' first | refine zx ?_ | fail
 refine zc (fun hc => ?_) fun hc => ?_
 ·have hc : (bif decide (x.op < 1) then true else decide (20 < x.op)) = true := hc
  simp only [zz] at hc
  rw [if_pos hc]
  repeat' first | refine zx ?_ | apply zn
  exact zAb ⟨.inr rfl, _, _, rfl, trivial, rfl⟩
 have hc : (bif decide (x.op < 1) then true else decide (20 < x.op)) = false := hc
 simp only [zz] at hc
 rw [if_neg (by omega)]
 repeat' apply zn
 refine zAK (T := tab) tOk hnt zAO (zA2 (T := tab) rfl ?_ (zNH rfl rfl rfl rfl rfl rfl rfl rfl (zPY x.op) (zA2 (T := tab) rfl ?_ (.nil _)))) (by decide +kernel) ?_
 ·exact zzt
 ·exact zzt
 refine zc (fun hc => ?_) fun hc => ?_
 ·have hc : (!decide (((zBv x.ar).length : Int) = zEV x.op)) = true := hc
  simp only [zz] at hc
  (try simp only [hml] at hc)
  (try simp only [zz] at hc)
  rw [if_pos hc]
  repeat' first | refine zx ?_ | apply zn
  exact zAb ⟨.inr rfl, _, _, rfl, trivial, rfl⟩
 have hc : (!decide (((zBv x.ar).length : Int) = zEV x.op)) = false := hc
 simp only [zz] at hc
 (try simp only [hml] at hc)
 (try simp only [zz] at hc)
 rw [if_neg (not_not_intro hc)]
 have q1 := zSU x.v zBD
 refine zxa ?_
 refine zc (fun hc => ?_) fun hc => ?_
 ·have hc : (bif !(decide (x.op = 2) == !zA1 (zA5 x.n) ⟨#[]⟩) then true else (bif !decide (x.op = 1) then !zvB x.v else false)) = true := hc
  rw [zAD, zHz, zPz] at hc
  simp only [zz] at hc
  rw [if_pos hc]
  repeat' first | refine zx ?_ | apply zn
  exact zAb ⟨.inr rfl, _, _, rfl, trivial, rfl⟩
 have hc : (bif !(decide (x.op = 2) == !zA1 (zA5 x.n) ⟨#[]⟩) then true else (bif !decide (x.op = 1) then !zvB x.v else false)) = false := hc
 rw [zAD, zHz, zPz] at hc
 simp only [zz] at hc
 rw [if_neg (by rintro (h | h); exact h hc.1; exact hc.2.elim (fun q => h.1 q) (fun q => h.2 q))]
 have hnm := zLM x.n
 repeat' apply zn
 refine zAa (zzx hnt rfl ?_ (callVG rfl rfl rfl rfl rfl rfl hnt rfl (fun hq => ?_) rfl (fun hq => zCU ⟨1, x.n, 0, 0⟩ hn) (zzx hnt rfl ?_ (Lex.nil _)))) ?_
 ·exact zza
 ·exact zza
 ·exact zza
 refine zc (fun hc => ?_) fun hc => ?_
 ·have hc : (bif decide (x.op = 2) then !decide (tkF ⟨1, x.n, 0, 0⟩ = 0) else false) = true := hc
  simp only [zz] at hc
  rw [hnm] at hc
  rw [if_pos hc]
  repeat' first | refine zx ?_ | apply zn
  exact zAb ⟨.inr rfl, _, _, rfl, trivial, rfl⟩
 have hc : (bif decide (x.op = 2) then !decide (tkF ⟨1, x.n, 0, 0⟩ = 0) else false) = false := hc
 simp only [zz] at hc
 rw [hnm] at hc
 rw [if_neg (fun h => hc.elim (fun q => q h.1) (fun q => h.2 q))]
 repeat' apply zn
 refine zAa (zzx hnt rfl ?_ (callVG rfl rfl rfl rfl rfl rfl hnt rfl (fun hq => ?_) rfl (fun hq => zI1 x.v) (zzx hnt rfl ?_ (Lex.nil _)))) ?_
 ·exact zza
 ·exact zza
 ·exact zza
 refine zc (fun hc => ?_) fun hc => ?_
 ·have hc : (bif decide (x.op = 1) then (bif !decide (chk x.v = 0) then true else decide (x.v.i < 0)) else false) = true := hc
  simp only [zz] at hc
  rw [if_pos hc]
  repeat' first | refine zx ?_ | apply zn
  exact zAb ⟨.inr rfl, _, _, rfl, trivial, rfl⟩
 have hc : (bif decide (x.op = 1) then (bif !decide (chk x.v = 0) then true else decide (x.v.i < 0)) else false) = false := hc
 simp only [zz] at hc
 rw [if_neg (fun h => hc.elim (fun q => q h.1) (fun q => h.2.elim (fun e => e q.1) (fun e => q.2 e)))]
 repeat' first | refine zx ?_ | apply zn
 exact zAb ⟨.inr rfl, _, _, rfl, trivial, rfl⟩
mutual
def ndF : Ex -> Int
 | .mk op v n ar => if zDN (.mk op v n ar) ≠ 0 then zDN (.mk op v n ar) else ndL ar
def ndL : List Ex -> Int
 | [] => 0
 | a :: r => if ndF a ≠ 0 then ndF a else ndL r
end
theorem zOK (x : Ex) : ndF x = if zDN x ≠ 0 then zDN x else ndL x.ar := by cases x; rw [ndF]; rfl
def exF (x : Ex) : Int := if ht x <= 7 /\ zBY x <= 40 then ndF x else 1
theorem zNg (x : Ex) (hL : x.ar.length <= maxLen) (hn : x.n.length <= maxLen) (ih : ∀ a ∈ x.ar, FnG Tryz.prog 89 gK [.agg (.es (eEx a))] (.one (.e (eI (ndF a))))) : FnG Tryz.prog 89 gK [.agg (.es (eEx x))] (.one (.e (eI (ndF x)))) := by
 refine zG 25 Tryz.func89 fun X hnt => ?_
 have h1 := zSy x hn
 have hml := zC8 x.ar
 unfold maxLen at hL
 rw [zOK, zAp]
 rw [zAp] at h1
 repeat' first | refine zx ?_ | fail
 refine zV h1 ?_
 repeat' first | refine zx ?_ | fail
 refine zc (fun hc => ?_) fun hc => ?_
 ·simp only [zz] at hc
  rw [if_pos hc]
  repeat' first | refine zx ?_ | apply zn
  exact zAb ⟨.inr rfl, _, _, rfl, trivial, rfl⟩
 simp only [zz] at hc
 rw [if_neg (not_not_intro hc)]
 clear h1
 repeat' first | refine zx ?_ | apply zn
 repeat' apply zn
 refine zAx (σ := Nat) (fun i => St.of [(13, .one (.e (.sl (zBv x.ar)))), (14, .one (.e (eI ((zBv x.ar).length : Int)))), (15, .one (.e (eI (i : Int)))), ((1000000 + 5), .one (.eptr fsE)), ((1000000 + 6), .one (.eptr acE))] []) (fun i => i <= x.ar.length /\ ndL (x.ar.drop i) = ndL x.ar) (fun i => x.ar.length - i) (0) (zAh (ad := []) ⟨zzl, zzl, zzl, zzl, zzl, trivial⟩ trivial) ⟨Nat.zero_le _, rfl⟩ ?_
 rintro i ⟨il, hi⟩
 repeat' first | refine zx ?_ | fail
 refine zc (fun hc => ?_) fun hc => ?_
 ·simp only [zz] at hc
  (try simp only [hml] at hc)
  (try simp only [zz] at hc)
  have hlt : i < x.ar.length := by omega
  have hg := (zHY x.ar i hlt).trans (zAp _)
  have hf := ih _ (zEl (d := ex0) hlt)
  rw [zAS (d := ex0) hlt, ndL] at hi
  refine zy ?_ ?_
  ·rw [Int.toNat_natCast, hg, hml]
   exact zza
  rw [Int.toNat_natCast, hg]
  rw [zAp] at hf
  generalize x.ar.getD i ex0 = a at *
  refine zV hf ?_
  repeat' first | refine zx ?_ | fail
  refine zc (fun hc => ?_) fun hc => ?_
  ·simp only [zz] at hc
   rw [if_pos hc] at hi
   rw [<-hi]
   repeat' first | refine zx ?_ | apply zn
   exact zAb ⟨.inr rfl, _, _, rfl, trivial, rfl⟩
  simp only [zz] at hc
  rw [if_neg (not_not_intro hc)] at hi
  repeat' first | refine zx ?_ | apply zn
  refine ⟨i + 1, ⟨by omega, hi⟩, by omega, zAh (ad := []) ⟨zzl, zzl, zzl, zzl, zzl, trivial⟩ trivial⟩
 simp only [zz] at hc
 (try simp only [hml] at hc)
 (try simp only [zz] at hc)
 refine zAt ?_
 rw [<-hi, List.drop_eq_nil_of_le (by omega), ndL]
 repeat' first | refine zx ?_ | apply zn
 exact zAb ⟨.inr rfl, _, _, rfl, trivial, rfl⟩
theorem zFD {x : Ex} (h : zDe x) : x.v.fit /\ x.n.length <= maxLen := by
 rw [zO7] at h
 exact ⟨h.2.1, h.2.2.1⟩
theorem zJQ : ∀ (m : Nat) (x : Ex), zBY x <= m -> zDe x -> FnG Tryz.prog 89 gK [.agg (.es (eEx x))] (.one (.e (eI (ndF x))))
 | 0, x, h, _ => absurd h (by have := zE5 x; omega)
 | m + 1, x, h, ho => zNg x (zCw ho).1 (zFD ho).2 fun a ha => zJQ m a (zFc h ha) ((zCw ho).2 a ha)
theorem zC9 (x : Ex) (h : zDe x) : FnG Tryz.prog 62 gK [.agg (.es (eEx x))] (.one (.e (eI (exF x)))) := by
 refine zG 14 Tryz.func62 fun X hnt => ?_
 have h1 := zSl x h 1
 have h2 := zJQ (zBY x) x (Nat.le_refl _) h
 unfold exF
 unfold zSm at h1
 rw [<-zIN x] at h1 h2
 have hx7 := ex7 x
 have f2 : 0 + 7 <= (Cs.es (eEx x)).len := by show 0 + 7 <= (eEx x).length; rw [hx7]; exact Nat.le_refl _
 repeat' first | refine zx ?_ | apply zn
 by_cases hs : ht x <= 7 /\ zBY x <= 40
 ·rw [if_pos (by omega)] at h1
  rw [if_pos hs]
  repeat' apply zn
  refine zAa (zzx hnt rfl ?_ (call rfl rfl rfl rfl rfl rfl rfl hnt (h1) (zzx hnt rfl ?_ (Lex.nil _)))) ?_
  ·exact zza
  ·exact zzt
  repeat' first | refine zx ?_ | apply zn
  refine zAj rfl (fun h => nomatch (show false = true from h)) (fun _ => ?_)
  repeat' apply zn
  refine zAa (zzx hnt rfl ?_ (callV rfl rfl rfl rfl rfl rfl rfl hnt rfl (h2) (zzx hnt rfl ?_ (Lex.nil _)))) ?_
  ·exact zza
  ·exact zzt
  exact zAb ⟨.inr rfl, _, _, rfl, trivial, rfl⟩
 ·rw [if_neg (by omega)] at h1
  rw [if_neg hs]
  repeat' apply zn
  refine zAa (zzx hnt rfl ?_ (call rfl rfl rfl rfl rfl rfl rfl hnt (h1) (zzx hnt rfl ?_ (Lex.nil _)))) ?_
  ·exact zza
  ·exact zzt
  repeat' first | refine zx ?_ | apply zn
  refine zAj rfl (fun _ => ?_) (fun h => nomatch (show true = false from h))
  repeat' first | refine zx ?_ | apply zn
  exact zAb ⟨.inr rfl, _, _, rfl, trivial, rfl⟩
theorem zNi {x : Ex} (h1 : 1 <= x.op) (h2 : x.op <= 20) : (zDN x = 0 \/ zDN x = 3) /\ (zDN x = 0 ↔ (x.ar.length : Int) = zEV x.op /\ (x.op = 2 ↔ x.n.length ≠ 0) /\ (x.op = 1 \/ zv x.v) /\ (x.op = 2 -> zC2 x.n) /\ (x.op = 1 -> chk x.v = 0 /\ 0 <= x.v.i)) := by
 unfold zDN
 rw [if_neg (by omega)]
 by_cases c1 : (x.ar.length : Int) = zEV x.op
 ·rw [if_neg (not_not_intro c1)]
  by_cases c2 : ¬ (x.op = 2 ↔ x.n.length ≠ 0) \/ (x.op ≠ 1 /\ ¬ zv x.v)
  ·rw [if_pos c2]
   refine ⟨.inr rfl, iff_of_false (by decide) ?_⟩
   rintro ⟨_, k2, k3, _⟩
   rcases c2 with c2 | c2
   ·exact c2 k2
   ·exact k3.elim c2.1 c2.2
  ·rw [if_neg c2]
   by_cases c3 : x.op = 2 /\ ¬ zC2 x.n
   ·rw [if_pos c3]
    exact ⟨.inr rfl, iff_of_false (by decide) fun k => c3.2 (k.2.2.2.1 c3.1)⟩
   ·rw [if_neg c3]
    by_cases c4 : x.op = 1 /\ (chk x.v ≠ 0 \/ x.v.i < 0)
    ·rw [if_pos c4]
     refine ⟨.inr rfl, iff_of_false (by decide) fun k => ?_⟩
     have := k.2.2.2.2 c4.1
     omega
    ·rw [if_neg c4]
     refine ⟨.inl rfl, iff_of_true rfl ⟨c1, Classical.byContradiction fun q => c2 (.inl q), Classical.byContradiction fun q => c2 (.inr ⟨fun e => q (.inl e), fun e => q (.inr e)⟩), fun e => Classical.byContradiction fun q => c3 ⟨e, q⟩, fun e => ?_⟩⟩
     omega
 ·rw [if_pos c1]
  exact ⟨.inr rfl, iff_of_false (by decide) fun k => c1 k.1⟩
def wl : List Int := [0, 0, 0, 1, 1, 2, 2, 2, 2, 2, 2, 2, 2, 2, 2, 2, 2, 1, 1, 2, 2]
theorem zTA {op : Int} (h1 : 1 <= op) (h2 : op <= 20) : (wl.map fun n => [eI n]).getD (Int.toNat op) [] = [eI (zEV op)] := by
 obtain ⟨k, rfl⟩ := Int.eq_ofNat_of_zero_le (show 0 <= op by omega)
 have h : ∀ k : Fin 21, 1 <= k.val -> wl.getD k.val 0 = zEV (k.val : Int) := by decide
 have hk := h ⟨k, by omega⟩ (by show 1 <= k; omega)
 rw [Int.toNat_natCast]
 have hl : k < wl.length := by show k < 21; omega
 rw [List.getD_eq_getElem?_getD, List.getElem?_map, List.getElem?_eq_getElem hl]
 rw [List.getD_eq_getElem?_getD, List.getElem?_eq_getElem hl] at hk
 have hk : wl[k] = zEV (k : Int) := hk
 rw [Option.map_some, hk]
 rfl
theorem zDE {p : Prop} [Decidable p] {b : Bool} (h : b = true ↔ p) : b = decide p := by
 rw [Bool.eq_iff_iff, decide_eq_true_eq]
 exact h
theorem zHs (x : Ex) (hok : x.v.ok) (hL : x.ar.length <= maxLen) (hn : x.n.length <= maxLen) (ih : ∀ a ∈ x.ar, FnG Tryz.prog 79 gK [.agg (.es (eEx a))] (.one (.e (eI (ndF a))))) : FnG Tryz.prog 79 gK [.agg (.es (eEx x))] (.one (.e (eI (ndF x)))) := by
 refine zG 97 Tryz.func79 fun X hnt => ?_
 have hml := zC8 x.ar
 have hln : (zA5 x.n).size = x.n.length := zAJ x.n
 unfold maxLen at hL
 rw [zOK, zAp]
 repeat' first | refine zx ?_ | fail
 refine zc (fun hc => ?_) fun hc => ?_
 ·have hc : (bif decide (x.op < 1) then true else decide (21 <= x.op)) = true := hc
  simp only [zz] at hc
  have h2 : zDN x = 2 := by unfold zDN; rw [if_pos (by omega)]
  rw [h2]
  repeat' first | refine zx ?_ | apply zn
  exact zAb ⟨.inr rfl, _, _, rfl, trivial, rfl⟩
 have hc : (bif decide (x.op < 1) then true else decide (21 <= x.op)) = false := hc
 simp only [zz] at hc
 obtain ⟨z1, z2⟩ := zNi (x := x) (by omega) (by omega)
 have hw : (wl.map fun n => [eI n]).getD (Int.toNat ([eI x.op, eI x.v.k, eI x.v.i, eQ x.v.b, eT x.v.t, eT x.n, .sl (zBv x.ar)].getD (0 + 0) E.dflt).int) [] = [eI (zEV x.op)] := zTA (op := x.op) (by omega) (by omega)
 have hw1 : 0 <= ([eI x.op, eI x.v.k, eI x.v.i, eQ x.v.b, eT x.v.t, eT x.n, .sl (zBv x.ar)].getD (0 + 0) E.dflt).int := by show 0 <= x.op; omega
 have hw2 : ([eI x.op, eI x.v.k, eI x.v.i, eQ x.v.b, eT x.v.t, eT x.n, .sl (zBv x.ar)].getD (0 + 0) E.dflt).int < ((wl.map fun n => [eI n]).length : Int) := by show x.op < 21; omega
 have e1 := zSU x.v zBD
 refine zAq (s' := St.of [(1, .one (.ptr 1 0 0)), (3, .one (.own 8 0)), ((1000000 + 5), .one (.eptr fsE)), ((1000000 + 6), .one (.eptr acE))] [(1, ⟨0, .box (.es [eI x.op, eI x.v.k, eI x.v.i, eQ x.v.b, eT x.v.t, eT x.n, .sl (zBv x.ar)]), 0⟩), (8, ⟨0, .row 1 (wl.map fun n => [eI n]), 0⟩)]) (zAh (ad := []) ⟨zzl, zzl, zzl, zzl, trivial⟩ zm) ?_
 refine zy ?_ ?_
 ·rw [hw]
  exact zza
 rw [hw]
 refine zx ?_
 first | refine zBy (σ := Bool) (fun y => St.of [(1, .one (.ptr 1 0 0)), (4, .v (.bool y)), ((1000000 + 5), .one (.eptr fsE)), ((1000000 + 6), .one (.eptr acE))] [(1, ⟨0, .box (.es [eI x.op, eI x.v.k, eI x.v.i, eQ x.v.b, eT x.v.t, eT x.n, .sl (zBv x.ar)]), 0⟩)]) (fun y => y = decide (zDN x = 0)) ?_ ?_ | refine zDI (zBy (σ := Bool) (fun y => St.of [(1, .one (.ptr 1 0 0)), (4, .v (.bool y)), ((1000000 + 5), .one (.eptr fsE)), ((1000000 + 6), .one (.eptr acE))] [(1, ⟨0, .box (.es [eI x.op, eI x.v.k, eI x.v.i, eQ x.v.b, eT x.v.t, eT x.n, .sl (zBv x.ar)]), 0⟩)]) (fun y => y = decide (zDN x = 0)) ?_ ?_)
 ·repeat' first | refine zx ?_ | fail
  refine zc (fun hc => ?_) fun hc => ?_
  ·have h1 : x.op = 1 := of_decide_eq_true hc
   clear hc
   repeat' apply zn
   refine zAa (zzx hnt rfl ?_ (callVG rfl rfl rfl rfl rfl rfl hnt rfl (fun hq => ?_) rfl (fun hq => zMu x.v hok) (zzx hnt rfl ?_ (Lex.nil _)))) ?_
   ·exact zza
   ·exact zza
   ·exact zza
   repeat' apply zn
   refine ⟨decide (zDN x = 0), rfl, zAh (ad := []) ⟨⟨rfl, rfl, rfl, rfl, rfl⟩, ?_, rfl, rfl, trivial⟩ zm⟩
   refine congrArg (fun z : Bool => E.v (.bool z)) ?_
   show (bif bif bif decide (((zBv x.ar).length : Int) = zEV x.op) then zA1 (zA5 x.n) ⟨#[]⟩ else false then decide (chk x.v = 0) else false then decide (0 <= x.v.i) else false) = _
   rw [zAD, hml]
   refine zDE ?_
   simp only [zz]
   rw [z2]
   have : ¬ x.op = 2 := by omega
   constructor
   ·rintro ⟨⟨⟨k1, k2⟩, k3⟩, k4⟩
    exact ⟨k1, by omega, .inl h1, fun e => absurd e this, fun _ => ⟨k3, k4⟩⟩
   ·rintro ⟨k1, k2, _, _, k5⟩
    exact ⟨⟨⟨k1, by omega⟩, (k5 h1).1⟩, (k5 h1).2⟩
  have h1 : ¬ x.op = 1 := of_decide_eq_false hc
  clear hc
  repeat' first | refine zx ?_ | fail
  refine zc (fun hc => ?_) fun hc => ?_
  ·have h2 : x.op = 2 := of_decide_eq_true hc
   clear hc
   repeat' apply zn
   refine zAa (zzx hnt rfl ?_ (callG rfl rfl rfl rfl rfl rfl hnt rfl (fun hq => ?_) (fun hq => zFd x.n hn) (zzx hnt rfl ?_ (Lex.nil _)))) ?_
   ·exact zza
   ·exact zza
   ·exact zza
   repeat' apply zn
   refine ⟨decide (zDN x = 0), rfl, zAh (ad := []) ⟨⟨rfl, rfl, rfl, rfl, rfl⟩, ?_, rfl, rfl, trivial⟩ zm⟩
   refine congrArg (fun z : Bool => E.v (.bool z)) ?_
   show (bif bif bif decide (((zBv x.ar).length : Int) = zEV x.op) then zvB x.v else false then zRR x.n else false then decide (((zA5 x.n).size : Int) <= 8) else false) = _
   rw [zHz, hml, hln]
   refine zDE ?_
   simp only [zz]
   rw [z2]
   unfold zC2
   constructor
   ·rintro ⟨⟨⟨k1, k2⟩, k3⟩, k4⟩
    have hne : x.n.length ≠ 0 := fun e => by
     have : x.n = [] := List.length_eq_zero_iff.1 e
     rw [this] at k3
     exact absurd k3 (by decide)
    exact ⟨k1, iff_of_true h2 hne, .inr k2, fun _ => ⟨k3, by omega⟩, fun e => absurd e h1⟩
   ·rintro ⟨k1, k2, k3, k4, _⟩
    exact ⟨⟨⟨k1, k3.resolve_left h1⟩, (k4 h2).1⟩, by have := (k4 h2).2; omega⟩
  have h2 : ¬ x.op = 2 := of_decide_eq_false hc
  clear hc
  refine zxa ?_
  repeat' apply zn
  refine ⟨decide (zDN x = 0), rfl, zAh (ad := []) ⟨⟨rfl, rfl, rfl, rfl, rfl⟩, ?_, rfl, rfl, trivial⟩ zm⟩
  refine congrArg (fun z : Bool => E.v (.bool z)) ?_
  show (bif bif decide (((zBv x.ar).length : Int) = zEV x.op) then zA1 (zA5 x.n) ⟨#[]⟩ else false then zvB x.v else false) = _
  rw [zAD, zHz, hml]
  refine zDE ?_
  simp only [zz]
  rw [z2]
  constructor
  ·rintro ⟨⟨k1, k2⟩, k3⟩
   exact ⟨k1, by omega, .inr k3, fun e => absurd e h2, fun e => absurd e h1⟩
  ·rintro ⟨k1, k2, k3, _, _⟩
   exact ⟨⟨k1, by omega⟩, k3.resolve_left h1⟩
 rintro y rfl
 clear hw hw1 hw2 e1 z2
 repeat' first | refine zx ?_ | apply zn
 rcases z1 with z1 | z1
 case inr =>
  rw [z1]
  refine zAj rfl (fun _ => ?_) (fun h => nomatch (show true = false from h))
  repeat' first | refine zx ?_ | apply zn
  exact zAb ⟨.inr rfl, _, _, rfl, trivial, rfl⟩
 rw [z1]
 refine zAj rfl (fun h => nomatch (show false = true from h)) (fun _ => ?_)
 rw [if_neg (by decide)]
 refine zxa ?_
 repeat' apply zn
 refine zAx (σ := Nat) (fun i => St.of [(85, .one (.e (.sl (zBv x.ar)))), (86, .one (.e (eI ((zBv x.ar).length : Int)))), (87, .one (.e (eI (i : Int)))), ((1000000 + 5), .one (.eptr fsE)), ((1000000 + 6), .one (.eptr acE))] []) (fun i => i <= x.ar.length /\ ndL (x.ar.drop i) = ndL x.ar) (fun i => x.ar.length - i) (0) (zAh (ad := []) ⟨zzl, zzl, zzl, zzl, zzl, trivial⟩ trivial) ⟨Nat.zero_le _, rfl⟩ ?_
 rintro i ⟨il, hi⟩
 repeat' first | refine zx ?_ | fail
 refine zc (fun hc => ?_) fun hc => ?_
 ·simp only [zz] at hc
  (try simp only [hml] at hc)
  (try simp only [zz] at hc)
  have hlt : i < x.ar.length := by omega
  have hg := (zHY x.ar i hlt).trans (zAp _)
  have hf := ih _ (zEl (d := ex0) hlt)
  rw [zAS (d := ex0) hlt, ndL] at hi
  refine zy ?_ ?_
  ·rw [Int.toNat_natCast, hg, hml]
   exact zza
  rw [Int.toNat_natCast, hg]
  rw [zAp] at hf
  generalize x.ar.getD i ex0 = a at *
  refine zV hf ?_
  repeat' first | refine zx ?_ | fail
  refine zc (fun hc => ?_) fun hc => ?_
  ·simp only [zz] at hc
   rw [if_pos hc] at hi
   rw [<-hi]
   repeat' first | refine zx ?_ | apply zn
   exact zAb ⟨.inr rfl, _, _, rfl, trivial, rfl⟩
  simp only [zz] at hc
  rw [if_neg (not_not_intro hc)] at hi
  repeat' first | refine zx ?_ | apply zn
  refine ⟨i + 1, ⟨by omega, hi⟩, by omega, zAh (ad := []) ⟨zzl, zzl, zzl, zzl, zzl, trivial⟩ trivial⟩
 simp only [zz] at hc
 (try simp only [hml] at hc)
 (try simp only [zz] at hc)
 refine zAt ?_
 rw [<-hi, List.drop_eq_nil_of_le (by omega), ndL]
 repeat' first | refine zx ?_ | apply zn
 exact zAb ⟨.inr rfl, _, _, rfl, trivial, rfl⟩
theorem zE6 : ∀ (m : Nat) (x : Ex), zBY x <= m -> zDe x -> FnG Tryz.prog 79 gK [.agg (.es (eEx x))] (.one (.e (eI (ndF x))))
 | 0, x, h, _ => absurd h (by have := zE5 x; omega)
 | m + 1, x, h, ho => zHs x (zFD ho).1.1 (zCw ho).1 (zFD ho).2 fun a ha => zE6 m a (zFc h ha) ((zCw ho).2 a ha)
theorem zD5 (x : Ex) (h : zDe x) : FnG Tryz.prog 40 gK [.agg (.es (eEx x))] (.one (.e (eI (exF x)))) := by
 refine zG 8 Tryz.func40 fun X hnt => ?_
 have h1 := zJh x
 have h2 := zE6 (zBY x) x (Nat.le_refl _) h
 unfold exF
 rw [<-zIN x] at h1 h2
 have hx7 := ex7 x
 have f2 : 0 + 7 <= (Cs.es (eEx x)).len := by show 0 + 7 <= (eEx x).length; rw [hx7]; exact Nat.le_refl _
 repeat' first | refine zx ?_ | apply zn
 by_cases hs : ht x <= 7 /\ zBY x <= 40
 ·rw [decide_eq_true hs] at h1
  rw [if_pos hs]
  repeat' apply zn
  refine zAa (zzx hnt rfl ?_ (call rfl rfl rfl rfl rfl rfl rfl hnt (h1) (zzx hnt rfl ?_ (Lex.nil _)))) ?_
  ·exact zza
  ·exact zzt
  refine zAj rfl (fun h => nomatch (show false = true from h)) (fun _ => ?_)
  repeat' apply zn
  refine zAa (zzx hnt rfl ?_ (callV rfl rfl rfl rfl rfl rfl rfl hnt rfl (h2) (zzx hnt rfl ?_ (Lex.nil _)))) ?_
  ·exact zza
  ·exact zzt
  exact zAb ⟨.inr rfl, _, _, rfl, trivial, rfl⟩
 ·rw [decide_eq_false hs] at h1
  rw [if_neg hs]
  repeat' apply zn
  refine zAa (zzx hnt rfl ?_ (call rfl rfl rfl rfl rfl rfl rfl hnt (h1) (zzx hnt rfl ?_ (Lex.nil _)))) ?_
  ·exact zza
  ·exact zzt
  refine zAj rfl (fun _ => ?_) (fun h => nomatch (show true = false from h))
  repeat' first | refine zx ?_ | apply zn
  exact zAb ⟨.inr rfl, _, _, rfl, trivial, rfl⟩
theorem zQY (v : Val) : (eqD tab 9 28 (.agg (.es (List.take 4 (List.drop 0 (zBw v))))) (.agg (.es (List.take 4 (List.drop 0 (zBw v)))))).2 = true := by
 rw [zVv]
 exact decide_eq_true ⟨rfl, rfl, rfl, rfl⟩
theorem zIj (x : Ex) (hL : x.ar.length <= maxLen) (ih : ∀ a ∈ x.ar, FnD Tryz.prog 11 [.agg (.es (eEx a)), .agg (.es (eEx a))] (.v (.bool true))) : FnD Tryz.prog 11 [.agg (.es (eEx x)), .agg (.es (eEx x))] (.v (.bool true)) := by
 refine zD 53 Tryz.func11 fun X hnt => ?_
 have hml := zC8 x.ar
 have e1 := zSU x.v x.v
 have e2 := zQY x.v
 have hLm := hL
 unfold maxLen at hLm
 rw [zAp]
 refine zx ?_
 refine zy ?_ ?_
 ·(dsimp only [zBh]; (repeat' first | exact trivial | assumption | exact Nat.le_of_ble_eq_true rfl | apply And.intro | exact zAm _ _ ‹_› | exact zAi _ _ ‹_› | (intro hh_; have hg_ := hh_; (try simp only [zAr, zAs, zBm, zBp, Bool.and_eq_true, ne_eq, decide_eq_true_eq, decide_eq_false_iff_not] at hg_)) | intro _ | exact rfl | omega))
  all_goals trace_state
 refine zc (fun hc => ?_) fun hc => ?_
 ·have hc : (bif (bif (bif !decide (x.op = x.op) then true else !(eqD tab 9 28 (.agg (.es (List.take 4 (List.drop 0 (zBw x.v))))) (.agg (.es (List.take 4 (List.drop 0 (zBw x.v)))))).2) then true else !zA1 (zA5 x.n) (zA5 x.n)) then true else !decide ((((zBv x.ar).length : Nat) : Int) = (((zBv x.ar).length : Nat) : Int))) = true := hc
  rw [e2, decide_eq_true rfl, decide_eq_true rfl, zAY, decide_eq_true rfl] at hc
  exact absurd hc (by decide)
 refine zx ?_
 repeat' apply zn
 refine zAx (σ := Nat) (fun i => St.of [(2, .one (.ptr 2 0 0)), (3, .one (.ptr 3 0 0)), (36, .one (.e (eI ((zBv x.ar).length : Int)))), (37, .one (.e (eI (i : Int))))] [(2, ⟨0, .box (.es [eI x.op, eI x.v.k, eI x.v.i, eQ x.v.b, eT x.v.t, eT x.n, .sl (zBv x.ar)]), 0⟩), (3, ⟨0, .box (.es [eI x.op, eI x.v.k, eI x.v.i, eQ x.v.b, eT x.v.t, eT x.n, .sl (zBv x.ar)]), 0⟩)]) (fun i => i <= x.ar.length) (fun i => x.ar.length - i) (0) (zAh (ad := []) ⟨zzl, zzl, zzl, zzl, trivial⟩ zm) (Nat.zero_le _) ?_
 rintro i il
 repeat' first | refine zx ?_ | fail
 refine zc (fun hc => ?_) fun hc => ?_
 ·simp only [zz] at hc
  (try simp only [hml] at hc)
  (try simp only [zz] at hc)
  have hlt : i < x.ar.length := by omega
  have hg := zHY x.ar i hlt
  have hmem := zEl (d := ex0) hlt
  have hf := ih _ hmem
  rw [<-hg] at hf
  have h7 := (congrArg List.length hg).trans (ex7 _)
  have k7 : ((zBv x.ar).getD i []).length = 7 := h7
  have f7 : 0 + 7 <= (Cs.es ((zBv x.ar).getD i [])).len := by show 0 + 7 <= ((zBv x.ar).getD i []).length; omega
  have hall : List.take 7 (List.drop 0 ((zBv x.ar).getD i [])) = (zBv x.ar).getD i [] := by rw [List.drop_zero, List.take_of_length_le (by omega)]
  have hlt2 : (i : Int) < (((zBv x.ar).length : Nat) : Int) := by omega
  rw [<-hall] at hf
  refine zx ?_
  rw [show (zBv x.ar).getD i [] = (zBv x.ar).getD (Int.toNat (i : Int)) [] by rw [Int.toNat_natCast]] at hf k7 f7
  repeat' apply zn
  refine zAK (T := tab) tOk hnt zAO (zA2 (T := tab) rfl ?_ (zNH rfl rfl rfl rfl rfl rfl rfl rfl (hf) (zA2 (T := tab) rfl ?_ (.nil _)))) (by first | decide +kernel | kernel_rfl) ?_
  ·(dsimp only [zBh]; (repeat' first | exact trivial | assumption | exact Nat.le_of_ble_eq_true rfl | apply And.intro | exact zAm _ _ ‹_› | exact zAi _ _ ‹_› | (intro hh_; have hg_ := hh_; (try simp only [zAr, zAs, zBm, zBp, Bool.and_eq_true, ne_eq, decide_eq_true_eq, decide_eq_false_iff_not] at hg_)) | intro _ | exact rfl | omega))
   all_goals trace_state
  ·(dsimp only [zBh]; (repeat' first | exact trivial | assumption | exact Nat.le_of_ble_eq_true rfl | apply And.intro | exact zAm _ _ ‹_› | exact zAi _ _ ‹_› | (intro hh_; have hg_ := hh_; (try simp only [zAr, zAs, zBm, zBp, Bool.and_eq_true, ne_eq, decide_eq_true_eq, decide_eq_false_iff_not] at hg_)) | intro _ | exact rfl | omega))
   all_goals trace_state
  refine zc (fun hc => ?_) fun hc => ?_
  ·exact absurd (show false = true from hc) Bool.noConfusion
  repeat' first | refine zx ?_ | apply zn
  refine ⟨i + 1, hlt, by omega, zAh (ad := []) ⟨zzl, zzl, zzl, zzl, trivial⟩ zm⟩
 refine zAt ?_
 repeat' first | refine zx ?_ | apply zn
 exact zAb ⟨.inr rfl, _, _, rfl, trivial, rfl⟩
theorem zFQ : ∀ (m : Nat) (x : Ex), zBY x <= m -> zDe x -> FnD Tryz.prog 11 [.agg (.es (eEx x)), .agg (.es (eEx x))] (.v (.bool true))
 | 0, x, h, _ => absurd h (by have := zE5 x; omega)
 | m + 1, x, h, ho => zIj x (zCw ho).1 fun a ha => zFQ m a (zFc h ha) ((zCw ho).2 a ha)
theorem zDA (x : Ex) (ho : zDe x) : FnD Tryz.prog 11 [.agg (.es (eEx x)), .agg (.es (eEx x))] (.v (.bool true)) := zFQ (zBY x) x (Nat.le_refl _) ho
def lvF (op : Int) : Int := if op = 16 then 1 else if op = 15 then 2 else if op = 4 then 3 else if (9 <= op /\ op <= 14) \/ op = 17 then 4 else if op = 19 then 5 else if op = 5 \/ op = 6 then 6 else if op = 7 \/ op = 8 then 7 else if op = 3 then 8 else 9
def sgT (s : Byt) : Tok := ⟨6, s, 0, 0⟩
def wdT (s : Byt) : Tok := ⟨2, s, 0, 0⟩
theorem zAN (s : Byt) : FnD Tryz.prog 122 [.one (.e (eT s))] (.agg (.es (zBO (sgT s)))) := by
 refine zD 5 Tryz.func122 fun X hnt => ?_
 repeat' first | refine zx ?_ | apply zn
 exact zAb ⟨.inr rfl, _, _, rfl, zzp, rfl⟩
theorem zBx (s : Byt) : FnD Tryz.prog 121 [.one (.e (eT s))] (.agg (.es (zBO (wdT s)))) := by
 refine zD 5 Tryz.func121 fun X hnt => ?_
 repeat' first | refine zx ?_ | apply zn
 exact zAb ⟨.inr rfl, _, _, rfl, zzp, rfl⟩
def mkS (op : Int) : Tok := if op = 16 then wdT [79, 82] else if op = 15 then wdT [65, 78, 68] else if op = 9 then sgT [61] else if op = 10 then sgT [60, 62] else if op = 11 then sgT [60] else if op = 12 then sgT [60, 61] else if op = 13 then sgT [62] else if op = 14 then sgT [62, 61] else if op = 19 then sgT [124, 124] else if op = 5 then sgT [43] else if op = 6 then sgT [45] else if op = 7 then sgT [42] else sgT [47]
theorem zOO (op : Int) (h1 : (5 <= op /\ op <= 16) \/ op = 19) : FnD Tryz.prog 117 [.one (.e (eI op))] (.agg (.es (zBO (mkS op)))) := by
 refine zD 41 Tryz.func117 fun X hnt => ?_
 rcases (by omega : op = 5 \/ op = 6 \/ op = 7 \/ op = 8 \/ op = 9 \/ op = 10 \/ op = 11 \/ op = 12 \/ op = 13 \/ op = 14 \/ op = 15 \/ op = 16 \/ op = 19) with rfl | rfl | rfl | rfl | rfl | rfl | rfl | rfl | rfl | rfl | rfl | rfl | rfl
 ·repeat' (first | apply zn | refine zx ?_ | refine zAj rfl (fun hc => ?_) (fun hc => absurd hc (by decide)) | refine zAj rfl (fun hc => absurd hc (by decide)) (fun hc => ?_))
  have h := zAN [43]
  refine zC h ?_
  exact zAb ⟨.inr rfl, _, _, rfl, zzp, rfl⟩
 ·repeat' (first | apply zn | refine zx ?_ | refine zAj rfl (fun hc => ?_) (fun hc => absurd hc (by decide)) | refine zAj rfl (fun hc => absurd hc (by decide)) (fun hc => ?_))
  have h := zAN [45]
  refine zC h ?_
  exact zAb ⟨.inr rfl, _, _, rfl, zzp, rfl⟩
 ·repeat' (first | apply zn | refine zx ?_ | refine zAj rfl (fun hc => ?_) (fun hc => absurd hc (by decide)) | refine zAj rfl (fun hc => absurd hc (by decide)) (fun hc => ?_))
  have h := zAN [42]
  refine zC h ?_
  exact zAb ⟨.inr rfl, _, _, rfl, zzp, rfl⟩
 ·repeat' (first | apply zn | refine zx ?_ | refine zAj rfl (fun hc => ?_) (fun hc => absurd hc (by decide)) | refine zAj rfl (fun hc => absurd hc (by decide)) (fun hc => ?_))
  have h := zAN [47]
  refine zC h ?_
  exact zAb ⟨.inr rfl, _, _, rfl, zzp, rfl⟩
 ·repeat' (first | apply zn | refine zx ?_ | refine zAj rfl (fun hc => ?_) (fun hc => absurd hc (by decide)) | refine zAj rfl (fun hc => absurd hc (by decide)) (fun hc => ?_))
  have h := zAN [61]
  refine zC h ?_
  exact zAb ⟨.inr rfl, _, _, rfl, zzp, rfl⟩
 ·repeat' (first | apply zn | refine zx ?_ | refine zAj rfl (fun hc => ?_) (fun hc => absurd hc (by decide)) | refine zAj rfl (fun hc => absurd hc (by decide)) (fun hc => ?_))
  have h := zAN [60,62]
  refine zC h ?_
  exact zAb ⟨.inr rfl, _, _, rfl, zzp, rfl⟩
 ·repeat' (first | apply zn | refine zx ?_ | refine zAj rfl (fun hc => ?_) (fun hc => absurd hc (by decide)) | refine zAj rfl (fun hc => absurd hc (by decide)) (fun hc => ?_))
  have h := zAN [60]
  refine zC h ?_
  exact zAb ⟨.inr rfl, _, _, rfl, zzp, rfl⟩
 ·repeat' (first | apply zn | refine zx ?_ | refine zAj rfl (fun hc => ?_) (fun hc => absurd hc (by decide)) | refine zAj rfl (fun hc => absurd hc (by decide)) (fun hc => ?_))
  have h := zAN [60,61]
  refine zC h ?_
  exact zAb ⟨.inr rfl, _, _, rfl, zzp, rfl⟩
 ·repeat' (first | apply zn | refine zx ?_ | refine zAj rfl (fun hc => ?_) (fun hc => absurd hc (by decide)) | refine zAj rfl (fun hc => absurd hc (by decide)) (fun hc => ?_))
  have h := zAN [62]
  refine zC h ?_
  exact zAb ⟨.inr rfl, _, _, rfl, zzp, rfl⟩
 ·repeat' (first | apply zn | refine zx ?_ | refine zAj rfl (fun hc => ?_) (fun hc => absurd hc (by decide)) | refine zAj rfl (fun hc => absurd hc (by decide)) (fun hc => ?_))
  have h := zAN [62,61]
  refine zC h ?_
  exact zAb ⟨.inr rfl, _, _, rfl, zzp, rfl⟩
 ·repeat' (first | apply zn | refine zx ?_ | refine zAj rfl (fun hc => ?_) (fun hc => absurd hc (by decide)) | refine zAj rfl (fun hc => absurd hc (by decide)) (fun hc => ?_))
  have h := zBx [65,78,68]
  refine zC h ?_
  exact zAb ⟨.inr rfl, _, _, rfl, zzp, rfl⟩
 ·repeat' (first | apply zn | refine zx ?_ | refine zAj rfl (fun hc => ?_) (fun hc => absurd hc (by decide)) | refine zAj rfl (fun hc => absurd hc (by decide)) (fun hc => ?_))
  have h := zBx [79,82]
  refine zC h ?_
  exact zAb ⟨.inr rfl, _, _, rfl, zzp, rfl⟩
 ·repeat' (first | apply zn | refine zx ?_ | refine zAj rfl (fun hc => ?_) (fun hc => absurd hc (by decide)) | refine zAj rfl (fun hc => absurd hc (by decide)) (fun hc => ?_))
  have h := zAN [124,124]
  refine zC h ?_
  exact zAb ⟨.inr rfl, _, _, rfl, zzp, rfl⟩
def ltT (v : Val) : Tok := if v.k = 0 then wdT [78, 85, 76, 76] else if v.k = 1 then (if v.i = 1 then wdT [84, 82, 85, 69] else wdT [70, 65, 76, 83, 69]) else if v.k = 2 then ⟨3, [], v.i, 0⟩ else if v.k = 3 then ⟨5, [], 0, v.b⟩ else ⟨4, v.t, 0, 0⟩
def zFU (l : List Tok) : E := .sl (l.map zBO)
def brk (least : Int) (p : Int × List Tok) : List Tok := if lvF p.1 < least then sgT [40] :: p.2 ++ [sgT [41]] else p.2
def left (op : Int) : Int := if lvF op = 4 then 5 else lvF op
def shJ (op : Int) (v : Val) (n : Byt) (ks : List (Int × List Tok)) : List Tok :=
 if op = 1 then [ltT v] else if op = 2 then [⟨1, n, 0, 0⟩]
 else if op = 3 then sgT [45] :: brk 8 (ks.getD 0 (0, []))
 else if op = 4 then wdT [78, 79, 84] :: brk 3 (ks.getD 0 (0, []))
 else if op = 17 then brk 5 (ks.getD 0 (0, [])) ++ [wdT [73, 83], wdT [78, 85, 76, 76]]
 else if op = 18 then [wdT [76, 69, 78, 71, 84, 72], sgT [40]] ++ (ks.getD 0 (0, [])).2 ++ [sgT [41]]
 else if op = 20 then [wdT [67, 79, 65, 76, 69, 83, 67, 69], sgT [40]] ++ (ks.getD 0 (0, [])).2 ++ [sgT [44]] ++ (ks.getD 1 (0, [])).2 ++ [sgT [41]]
 else brk (left op) (ks.getD 0 (0, [])) ++ [mkS op] ++ brk (lvF op + 1) (ks.getD 1 (0, []))
mutual
def shX : Ex -> List Tok
 | .mk op v n ar => shJ op v n (shL ar)
def shL : List Ex -> List (Int × List Tok)
 | [] => []
 | .mk op v n ar :: r => (op, shX (.mk op v n ar)) :: shL r
end
theorem zCo {m : Mem} {id : Nat} {b : Blk} (h : (m id).map Blk.ver = some b.ver) : ∀ i, zA7 (zDH m [(id, b)]) i = zA7 m i := fun i => by
 show zA7 (upd m id (some b)) i = _
 unfold zA7
 by_cases hi : i = id
 ·subst hi
  rw [zAn]
  cases hm : m i with
  | none => rw [hm] at h; cases h
  | some b0 => rw [hm] at h; exact (Option.some.inj h).symm
 ·rw [zAB _ _ hi]
theorem zB1 {m : Mem} {ρ : Rn} {dom : Nat -> Bool} {d x : D} {ds bs : List D} {p : Nat × Blk} (h : zF7 m d = some (x, [p])) (k : ArgsH m ρ dom ds bs []) : ArgsH m ρ dom (d :: ds) (x :: bs) [p] := .data h k
theorem zBZ (op : Int) (v : Val) (n : Byt) (ar : List Ex) : eEx (.mk op v n ar) = [eI op, eI v.k, eI v.i, eQ v.b, eT v.t, eT n, .sl (ar.map eEx)] := by rw [eEx, zBz]
section
variable {P : Program} {X : Ctx}
def zKr (P : Program) (X : Ctx) (c : Code) (Q : Exit -> St -> Prop) : Nat -> St -> Prop
 | 0, _ => False
 | n + 1, s => Tr P X c s (fun | .normal, s' => zKr P X c Q n s' | e, s' => Q e s')
theorem zBX {c : Code} {Q : Exit -> St -> Prop} {n : Nat} {s : St} (h : Tr P X c s (fun | .normal, s' => zKr P X c Q n s' | e, s' => Q e s')) : zKr P X c Q (n + 1) s := h
theorem zGu {c : Code} {Q : Exit -> St -> Prop} {s : St} (n : Nat) (h : zKr P X c Q n s) : Tr P X (.loop c) s Q := by
 refine zAx (σ := Nat × St) (fun x => x.2) (fun x => zKr P X c Q x.1 x.2) (fun x => x.1) (n, s) (fun _ _ h => h) h ?_
 rintro ⟨k, s⟩ hk
 cases k with
 | zero => exact hk.elim
 | succ k =>
  refine zEJ hk fun e s' h => ?_
  cases e with
  | normal => exact ⟨(k, s'), h, Nat.lt_succ_self k, fun _ _ h => h⟩
  | _ => exact h
end
def spT : List Nat := (List.range 256).map fun i => if (9 <= i /\ i <= 13) \/ i = 32 then 1 else 0
def spE : List E := spT.map eU8
def mkE : List E := [[], [], [], [], [], [43], [45], [42], [47], [61], [60, 62], [60], [60, 61], [62], [62, 61], [65, 78, 68], [79, 82], [], [], [124, 124], []].map eT
def Fld (s : Byt) (ws : List Byt) : Prop := FnG Tryz.prog 68 [(3, spE)] [.one (.e (eT s))] (.one (.e (.sl (ws.map fun t => [eT t]))))
def Tks (s : Byt) (ts : List Tok) : Prop := FnG Tryz.prog 75 [(3, spE)] [.one (.e (eT s))] (.one (.e (zFU ts)))
theorem zzF {s : Byt} {ws : List Byt} (h : ∀ X : Ctx, X.nt = 106 -> Tr Tryz.prog X (Tryz.f68.body.getD .skip) (St.startG [(3, spE)] [.one (.e (eT s))]) (Ab.Ends tab Tryz.f68.results.toList (.one (.e (.sl (ws.map fun t => [eT t]))))) := by
 intro X hnt
 repeat' (first | refine zDI ?_ | refine zEX ?_ | refine zGv ?_ | refine zGu 30 ?_ | refine zBX ?_ | refine zAt ?_ | refine reg (T := tab) tOk hnt rfl (by exact zzt) ?_ | refine zAj rfl (fun hc => ?_) (fun hc => absurd (show true = false from hc) Bool.noConfusion) | refine zAj rfl (fun hc => absurd (show false = true from hc) Bool.noConfusion) (fun hc => ?_))
 exact zAb ⟨.inr rfl, _, _, rfl, zzp, rfl⟩) : Fld s ws :=
 zJ4 (T := tab) tOk Tryz.func68 rfl (by kernel_rfl) (by simp [Tryz.ntmps68]) h
set_option maxRecDepth 10000
set_option maxHeartbeats 2000000
theorem zFg : Fld [45] [[45]] := zzF
theorem zGm : Fld [78, 79, 84] [[78, 79, 84]] := zzF
theorem zCb : Fld [40] [[40]] := zzF
theorem zIL : Fld [41] [[41]] := zzF
theorem zQW : Fld [73, 83, 32, 78, 85, 76, 76] [[73, 83], [78, 85, 76, 76]] := zzF
theorem zQV : Fld [76, 69, 78, 71, 84, 72, 32, 40] [[76, 69, 78, 71, 84, 72], [40]] := zzF
theorem zQU : Fld [67, 79, 65, 76, 69, 83, 67, 69, 32, 40] [[67, 79, 65, 76, 69, 83, 67, 69], [40]] := zzF
theorem zIK : Fld [44] [[44]] := zzF
theorem zGl : Fld [78, 85, 76, 76] [[78, 85, 76, 76]] := zzF
theorem zQT : Fld [70, 65, 76, 83, 69] [[70, 65, 76, 83, 69]] := zzF
theorem zQS : Fld [84, 82, 85, 69] [[84, 82, 85, 69]] := zzF
def grT : Byt := [65, 66, 67, 68, 69, 70, 71, 72, 73, 74, 75, 76, 77, 78, 79, 80, 81, 82, 83, 84, 85, 86, 87, 88, 89, 90]
def wtk (w : Byt) : Tok := if amg grT (w.getD 0 0) = true then wdT w else sgT w
theorem zCf (s : Byt) (ws : List Byt) (hF : Fld s ws) (hne : ∀ w ∈ ws, 0 < w.length) (hl : ws.length <= 1000) : FnG Tryz.prog 75 ([(3, spE)]) [.one (.e (eT s))] (.one (.e (zFU (ws.map wtk)))) := by
 refine zG 25 Tryz.func75 fun X hnt => ?_
 have lw : (ws.map fun t => [eT t]).length = ws.length := List.length_map ..
 unfold Fld at hF
 repeat' first | refine zx ?_ | apply zn
 repeat' apply zn
 refine zAa (zzx hnt rfl ?_ (callV rfl rfl rfl rfl rfl rfl rfl hnt rfl (hF) (zzx hnt rfl ?_ (Lex.nil _)))) ?_
 ·exact zza
 ·exact zza
 repeat' apply zn
 refine zAx (σ := Nat) (fun i => St.of [(3, .one (.own 6000 0)), (8, .one (.e (.sl (ws.map fun t => [eT t])))), (9, .one (.e (eI ((ws.map fun t => [eT t]).length : Int)))), (10, .one (.e (eI (i : Int)))), ((1000000 + 3), .one (.eptr spE))] [(6000, ⟨0, .row 4 (((ws.take i).map wtk).map zBO), 0⟩)]) (fun i => i <= ws.length) (fun i => ws.length - i) (0) (zAh (ad := [6000]) ⟨zzl, zzl, zzl, zzl, zzl, trivial⟩ zm) (Nat.zero_le _) ?_
 rintro i il
 repeat' first | refine zx ?_ | fail
 refine zc (fun hc => ?_) fun hc => ?_
 ·simp only [zz] at hc
  (try simp only [lw] at hc)
  (try simp only [zz] at hc)
  have hlt : i < ws.length := by omega
  have hg : (ws.map fun t => [eT t]).getD i [] = [eT (ws.getD i [])] := by
   rw [List.getD_eq_getElem?_getD, List.getElem?_map, List.getElem?_eq_getElem hlt, List.getD_eq_getElem?_getD, List.getElem?_eq_getElem hlt]
   rfl
  have hw := hne (ws.getD i []) (by rw [List.getD_eq_getElem?_getD, List.getElem?_eq_getElem hlt]; exact List.getElem_mem hlt)
  have htk : (ws.take (i + 1)).map wtk = (ws.take i).map wtk ++ [wtk (ws.getD i [])] := by
   rw [List.take_add_one, List.getD_eq_getElem?_getD, List.getElem?_eq_getElem hlt, List.map_append]
   rfl
  have hpl : (((ws.take i).map wtk).map zBO).length = i := by
   rw [List.length_map, List.length_map, List.length_take]
   omega
  have hq1 : (((ws.take i).map wtk).map zBO).length + 1 <= maxLen := by rw [hpl]; simp only [maxLen]; omega
  have hq2 : ((((ws.take i).map wtk).map zBO).length + 1) * 40 <= 140737488355328 := by rw [hpl]; omega
  refine zy ?_ ?_
  ·rw [Int.toNat_natCast, hg, lw]
   exact zza
  rw [Int.toNat_natCast, hg]
  generalize ws.getD i [] = x at *
  have hxl : (zA5 x).size = x.length := List.size_toArray
  have hx0 : (0 : Int) < ((zA5 x).size : Int) := by omega
  refine zx ?_
  have ha := zI8 ((zA5 x).data.toList.getD (Int.toNat 0) 0) grT (by decide)
  repeat' apply zn
  refine zAa (zzx hnt rfl ?_ (call rfl rfl rfl rfl rfl rfl rfl hnt (ha) (zzx hnt rfl ?_ (Lex.nil _)))) ?_
  ·exact zza
  ·exact zza
  have he : ((ws.take i).map wtk).map zBO ++ [zBO (wtk x)] = ((ws.take (i + 1)).map wtk).map zBO := by
   rw [htk, List.map_append]
   rfl
  refine zc (fun hc => ?_) fun hc => ?_
  ·have hc : amg grT (x.getD 0 0) = true := hc
   have hwx : wtk x = wdT x := by
    unfold wtk
    rw [if_pos hc]
   rw [hwx] at he
   refine zx ?_
   refine zxa ?_
   refine zx ?_
   refine ⟨i + 1, hlt, by omega, zAh (ad := []) ⟨zzl, zzl, zzl, zzl, zzl, trivial⟩ (zAe rfl rfl he trivial)⟩
  have hc : ¬ amg grT (x.getD 0 0) = true := by
   have hc : amg grT (x.getD 0 0) = false := hc
   rw [hc]
   exact Bool.noConfusion
  have hwx : wtk x = sgT x := by
   unfold wtk
   rw [if_neg hc]
  rw [hwx] at he
  refine zxa ?_
  refine zx ?_
  refine ⟨i + 1, hlt, by omega, zAh (ad := []) ⟨zzl, zzl, zzl, zzl, zzl, trivial⟩ (zAe rfl rfl he trivial)⟩
 simp only [zz] at hc
 (try simp only [lw] at hc)
 (try simp only [zz] at hc)
 have hi : i = ws.length := by omega
 rw [hi, List.take_length]
 refine zAt ?_
 repeat' first | refine zx ?_ | apply zn
 exact zAb ⟨.inr rfl, _, _, rfl, zzp, rfl⟩
theorem zP4 : Tks [45] [sgT [45]] := zCf _ _ zFg (by decide) (by decide)
theorem zP3 : Tks [78, 79, 84] [wdT [78, 79, 84]] := zCf _ _ zGm (by decide) (by decide)
theorem zLJ : Tks [40] [sgT [40]] := zCf _ _ zCb (by decide) (by decide)
theorem zLI : Tks [78, 85, 76, 76] [wdT [78, 85, 76, 76]] := zCf _ _ zGl (by decide) (by decide)
theorem zLH : Tks [70, 65, 76, 83, 69] [wdT [70, 65, 76, 83, 69]] := zCf _ _ zQT (by decide) (by decide)
theorem zLG : Tks [84, 82, 85, 69] [wdT [84, 82, 85, 69]] := zCf _ _ zQS (by decide) (by decide)
end Go.Proofs.YtcdifgacoleckaaGreatDoor
