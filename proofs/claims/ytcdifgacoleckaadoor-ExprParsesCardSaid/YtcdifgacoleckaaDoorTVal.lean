/- value.Check and the document's ValueFault. No condition. -/
import Derived.Test.YtcdifgacoleckaaDoorTVld
import Derived.Test.YtcdifgacoleckaaDoorAbFl
namespace Go.Proofs.YtcdifgacoleckaaDoor
open Go Go.RowKit Go.Proofs.YtcdifgacoleckaaDoor.Ab
set_option linter.unusedSimpArgs false
set_option linter.unusedVariables false

structure Val where
  k : Int
  i : Int
  b : BitVec 64
  t : Byt
def eVal (v : Val) : List E := [eI v.k, eI v.i, eQ v.b, eT v.t]
def Val.ok (v : Val) : Prop := (-9223372036854775808 ≤ v.k ∧ v.k ≤ 9223372036854775807) ∧ -9223372036854775808 ≤ v.i ∧ v.i ≤ 9223372036854775807
def Val.fit (v : Val) : Prop := v.ok ∧ v.t.length ≤ maxLen
theorem rowGet (l : List Val) (i : Nat) (h : i < l.length) : (l.map eVal).getD i [] = eVal (l.getD i ⟨0, 0, 0, []⟩) := by
  rw [List.getD_eq_getElem?_getD, List.getElem?_map, List.getElem?_eq_getElem h, List.getD_eq_getElem?_getD, List.getElem?_eq_getElem h]
  rfl
def eRow (l : List Val) : E := .sl (l.map eVal)
theorem drop_getD {α : Type} {l : List α} {i : Nat} {d : α} (h : i < l.length) : l.drop i = l.getD i d :: l.drop (i + 1) := by
  rw [List.drop_eq_getElem_cons h, List.getD_eq_getElem?_getD, List.getElem?_eq_getElem h]
  rfl
theorem eVal0 (v : Val) : ((eVal v).getD (0 + 0) E.dflt).int = v.k := rfl
theorem eVal1 (v : Val) : ((eVal v).getD (0 + 1) E.dflt).int = v.i := rfl
theorem eVal2 (v : Val) : ((eVal v).getD (0 + 2) E.dflt).int = (v.b.toNat : Int) := rfl
theorem eVal3 (v : Val) : ((eVal v).getD (0 + 3) E.dflt).str = strB v.t := rfl
theorem bytes_list (b : ByteArray) : b.toList = b.data.toList := ByteArray.toList_eq b
theorem strEq_B (x y : Byt) : strEq (strB x) (strB y) = decide (x = y) := by
  unfold strEq
  rw [bytes_list, bytes_list, strB_list, strB_list]
  rw [Bool.eq_iff_iff]
  simp
theorem strEq_nil (x : Byt) : strEq (strB x) ⟨#[]⟩ = decide (x.length = 0) := by
  rw [show (⟨#[]⟩ : ByteArray) = strB [] from rfl, strEq_B]
  cases x <;> simp
def badR (b : BitVec 64) : Bool := bif (FloatKind.f64.format.order b.toNat b.toNat != some .eq) then true else bif (FloatKind.f64.format.order b.toNat 0 == some .eq) then decide (IntKind.i64.wrap (b.toNat : Int) < 0) else false
def badQ (b : BitVec 64) : Bool := bif decide ((b.toNat : Int) = 9223372036854775808) then true else decide ((18437736874454810624 : Int) < IntKind.u64.wrap ((b.toNat : Int) * 2 ^ min (Int.toNat 1) IntKind.u64.bits))
def chk (v : Val) : Int :=
  if v.k < 0 ∨ 4 < v.k then 2
  else if 40 < v.t.length then 1
  else if (v.k ≠ 4 ∧ v.t.length ≠ 0) ∨ (v.k ≠ 3 ∧ v.b.toNat ≠ 0) ∨ (v.k ≠ 2 ∧ v.k ≠ 1 ∧ v.i ≠ 0) then 3
  else if v.k = 1 ∧ v.i ≠ 0 ∧ v.i ≠ 1 then 3
  else if v.k = 3 ∧ badR v.b = true then 3
  else if v.k = 4 ∧ vld v.t = false then 3 else 0
set_option maxRecDepth 10000 in
set_option maxHeartbeats 2000000 in
theorem check_fn (v : Val) : FnG Tryd.prog 49 gK [.agg (.es (eVal v))] (.one (.e (eI (chk v)))) := by
  refine fn_introG (T := tab) tOk Tryd.func49 rfl (by kernel_rfl) (by simp [Tryd.ntmps49]) ?_
  intro X hX
  have hnt : X.nt = 83 := hX
  clear hX
  have hl : (strB v.t).size = v.t.length := strB_size v.t
  unfold chk
  repeat' first | refine zzs ?_ | refine zzr hnt rfl ?_ ?_ | refine zzd hnt rfl ?_ ?_ | refine zzb ?_ | refine zzk ?_
  · exact zzt
  · exact zzt
  repeat' first | refine zzs ?_ | refine zzb ?_ | refine zzk ?_
  refine tr_cond rfl (fun hc => ?_) (fun hc => ?_)
  · simp only [zz1, zz2, zz3, zz4, zz5, zz6, zz7, zz8] at hc
    (try simp only [eVal0, eVal1, eVal2, eVal3, hl, strEq_nil] at hc)
    (try simp only [zz1, zz2, zz3, zz4, zz5, zz6, zz7, zz8] at hc)
    rw [if_pos (by omega)]
    repeat' first | refine zzs ?_ | refine zzr hnt rfl ?_ ?_ | refine zzd hnt rfl ?_ ?_ | refine zzb ?_ | refine zzk ?_
    · exact zzt
    exact tr_ret ⟨.inr rfl, _, _, rfl, trivial, rfl⟩
  simp only [zz1, zz2, zz3, zz4, zz5, zz6, zz7, zz8] at hc
  (try simp only [eVal0, eVal1, eVal2, eVal3, hl, strEq_nil] at hc)
  (try simp only [zz1, zz2, zz3, zz4, zz5, zz6, zz7, zz8] at hc)
  rw [if_neg (by omega)]
  repeat' first | refine zzs ?_ | refine zzr hnt rfl ?_ ?_ | refine zzd hnt rfl ?_ ?_ | refine zzb ?_ | refine zzk ?_
  · exact zzt
  repeat' first | refine zzs ?_ | refine zzb ?_ | refine zzk ?_
  refine tr_cond rfl (fun hc => ?_) (fun hc => ?_)
  · simp only [zz1, zz2, zz3, zz4, zz5, zz6, zz7, zz8] at hc
    (try simp only [eVal0, eVal1, eVal2, eVal3, hl, strEq_nil] at hc)
    (try simp only [zz1, zz2, zz3, zz4, zz5, zz6, zz7, zz8] at hc)
    rw [if_pos (by omega)]
    repeat' first | refine zzs ?_ | refine zzr hnt rfl ?_ ?_ | refine zzd hnt rfl ?_ ?_ | refine zzb ?_ | refine zzk ?_
    · exact zzt
    exact tr_ret ⟨.inr rfl, _, _, rfl, trivial, rfl⟩
  simp only [zz1, zz2, zz3, zz4, zz5, zz6, zz7, zz8] at hc
  (try simp only [eVal0, eVal1, eVal2, eVal3, hl, strEq_nil] at hc)
  (try simp only [zz1, zz2, zz3, zz4, zz5, zz6, zz7, zz8] at hc)
  rw [if_neg (by omega)]
  repeat' first | refine zzs ?_ | refine zzr hnt rfl ?_ ?_ | refine zzd hnt rfl ?_ ?_ | refine zzb ?_ | refine zzk ?_
  · exact zzt
  repeat' first | refine zzs ?_ | refine zzb ?_ | refine zzk ?_
  refine tr_cond rfl (fun hc => ?_) (fun hc => ?_)
  · simp only [zz1, zz2, zz3, zz4, zz5, zz6, zz7, zz8] at hc
    (try simp only [eVal0, eVal1, eVal2, eVal3, hl, strEq_nil] at hc)
    (try simp only [zz1, zz2, zz3, zz4, zz5, zz6, zz7, zz8] at hc)
    rw [if_pos (by omega)]
    repeat' first | refine zzs ?_ | refine zzr hnt rfl ?_ ?_ | refine zzd hnt rfl ?_ ?_ | refine zzb ?_ | refine zzk ?_
    · exact zzt
    exact tr_ret ⟨.inr rfl, _, _, rfl, trivial, rfl⟩
  simp only [zz1, zz2, zz3, zz4, zz5, zz6, zz7, zz8] at hc
  (try simp only [eVal0, eVal1, eVal2, eVal3, hl, strEq_nil] at hc)
  (try simp only [zz1, zz2, zz3, zz4, zz5, zz6, zz7, zz8] at hc)
  rw [if_neg (by omega)]
  repeat' first | refine zzs ?_ | refine zzr hnt rfl ?_ ?_ | refine zzd hnt rfl ?_ ?_ | refine zzb ?_ | refine zzk ?_
  · exact zzt
  · exact zzt
  repeat' first | refine zzs ?_ | refine zzb ?_ | refine zzk ?_
  refine tr_cond rfl (fun hc => ?_) (fun hc => ?_)
  · simp only [zz1, zz2, zz3, zz4, zz5, zz6, zz7, zz8] at hc
    (try simp only [eVal0, eVal1, eVal2, eVal3, hl, strEq_nil] at hc)
    (try simp only [zz1, zz2, zz3, zz4, zz5, zz6, zz7, zz8] at hc)
    repeat' first | refine zzs ?_ | refine zzr hnt rfl ?_ ?_ | refine zzd hnt rfl ?_ ?_ | refine zzb ?_ | refine zzk ?_
    · exact zzt
    repeat' first | refine zzs ?_ | refine zzb ?_ | refine zzk ?_
    refine tr_cond rfl (fun hc => ?_) (fun hc => ?_)
    · simp only [zz1, zz2, zz3, zz4, zz5, zz6, zz7, zz8] at hc
      (try simp only [eVal0, eVal1, eVal2, eVal3, hl, strEq_nil] at hc)
      (try simp only [zz1, zz2, zz3, zz4, zz5, zz6, zz7, zz8] at hc)
      rw [if_pos (by omega)]
      repeat' first | refine zzs ?_ | refine zzr hnt rfl ?_ ?_ | refine zzd hnt rfl ?_ ?_ | refine zzb ?_ | refine zzk ?_
      · exact zzt
      exact tr_ret ⟨.inr rfl, _, _, rfl, trivial, rfl⟩
    simp only [zz1, zz2, zz3, zz4, zz5, zz6, zz7, zz8] at hc
    (try simp only [eVal0, eVal1, eVal2, eVal3, hl, strEq_nil] at hc)
    (try simp only [zz1, zz2, zz3, zz4, zz5, zz6, zz7, zz8] at hc)
    rw [if_neg (by omega), if_neg (by omega), if_neg (by omega)]
    repeat' first | refine zzs ?_ | refine zzr hnt rfl ?_ ?_ | refine zzd hnt rfl ?_ ?_ | refine zzb ?_ | refine zzk ?_
    · exact zzt
    exact tr_ret ⟨.inr rfl, _, _, rfl, trivial, rfl⟩
  simp only [zz1, zz2, zz3, zz4, zz5, zz6, zz7, zz8] at hc
  (try simp only [eVal0, eVal1, eVal2, eVal3, hl, strEq_nil] at hc)
  (try simp only [zz1, zz2, zz3, zz4, zz5, zz6, zz7, zz8] at hc)
  rw [if_neg (by omega)]
  repeat' first | refine zzs ?_ | refine zzr hnt rfl ?_ ?_ | refine zzd hnt rfl ?_ ?_ | refine zzb ?_ | refine zzk ?_
  · exact zzt
  repeat' first | refine zzs ?_ | refine zzb ?_ | refine zzk ?_
  refine tr_cond rfl (fun hc => ?_) (fun hc => ?_)
  · have hk : v.k = 3 := of_decide_eq_true hc
    clear hc
    repeat' first | refine zzs ?_ | refine zzb ?_ | refine zzk ?_
    refine tr_region (zzx hnt rfl ?_ (callE rfl rfl rfl rfl rfl rfl rfl hnt (frombits_fn (v.b.toNat : Int)) (zzx hnt rfl ?_ (Lex.nil _)))) ?_
    · exact zzt
    · exact zzt
    rw [Int.toNat_natCast]
    repeat' first | refine zzs ?_ | refine zzb ?_ | refine zzk ?_
    refine tr_region (zzx hnt rfl ?_ (callG rfl rfl rfl rfl rfl rfl hnt rfl (fun hq => ?_) (fun hq => signbit_fn v.b.toNat) (zzx hnt rfl ?_ (Lex.nil _)))) ?_
    · exact zzt
    · exact zzt
    · exact zzt
    repeat' first | refine zzs ?_ | refine zzb ?_ | refine zzk ?_
    refine tr_cond rfl (fun hc => ?_) (fun hc => ?_)
    · have hb : badR v.b = true := hc
      rw [if_pos ⟨hk, hb⟩]
      repeat' first | refine zzs ?_ | refine zzr hnt rfl ?_ ?_ | refine zzd hnt rfl ?_ ?_ | refine zzb ?_ | refine zzk ?_
      · exact zzt
      exact tr_ret ⟨.inr rfl, _, _, rfl, trivial, rfl⟩
    have hb : badR v.b = false := hc
    rw [if_neg (fun h => by rw [hb] at h; exact Bool.false_ne_true h.2), if_neg (by omega)]
    repeat' first | refine zzs ?_ | refine zzr hnt rfl ?_ ?_ | refine zzd hnt rfl ?_ ?_ | refine zzb ?_ | refine zzk ?_
    · exact zzt
    exact tr_ret ⟨.inr rfl, _, _, rfl, trivial, rfl⟩
  simp only [zz1, zz2, zz3, zz4, zz5, zz6, zz7, zz8] at hc
  (try simp only [eVal0] at hc)
  (try simp only [zz1, zz2, zz3, zz4, zz5, zz6, zz7, zz8] at hc)
  rw [if_neg (fun h => hc h.1)]
  repeat' first | refine zzs ?_ | refine zzr hnt rfl ?_ ?_ | refine zzd hnt rfl ?_ ?_ | refine zzb ?_ | refine zzk ?_
  · exact zzt
  repeat' first | refine zzs ?_ | refine zzb ?_ | refine zzk ?_
  refine tr_cond rfl (fun hc => ?_) (fun hc => ?_)
  · have hk : v.k = 4 := of_decide_eq_true hc
    clear hc
    repeat' first | refine zzs ?_ | refine zzb ?_ | refine zzk ?_
    refine tr_region (zzx hnt rfl ?_ (callV rfl rfl rfl rfl rfl rfl rfl hnt rfl (valid_fn v.t) (zzx hnt rfl ?_ (Lex.nil _)))) ?_
    · exact zzt
    · exact zzt
    repeat' first | refine zzs ?_ | refine zzb ?_ | refine zzk ?_
    refine tr_cond rfl (fun hc => ?_) (fun hc => ?_)
    · have hb : vld v.t = false := by simpa using hc
      rw [if_pos ⟨hk, hb⟩]
      repeat' first | refine zzs ?_ | refine zzr hnt rfl ?_ ?_ | refine zzd hnt rfl ?_ ?_ | refine zzb ?_ | refine zzk ?_
      · exact zzt
      exact tr_ret ⟨.inr rfl, _, _, rfl, trivial, rfl⟩
    have hb : vld v.t = true := by simpa using hc
    rw [if_neg (fun h => by rw [hb] at h; exact Bool.false_ne_true h.2.symm)]
    repeat' first | refine zzs ?_ | refine zzr hnt rfl ?_ ?_ | refine zzd hnt rfl ?_ ?_ | refine zzb ?_ | refine zzk ?_
    · exact zzt
    exact tr_ret ⟨.inr rfl, _, _, rfl, trivial, rfl⟩
  simp only [zz1, zz2, zz3, zz4, zz5, zz6, zz7, zz8] at hc
  (try simp only [eVal0] at hc)
  (try simp only [zz1, zz2, zz3, zz4, zz5, zz6, zz7, zz8] at hc)
  rw [if_neg (fun h => hc h.1)]
  repeat' first | refine zzs ?_ | refine zzr hnt rfl ?_ ?_ | refine zzd hnt rfl ?_ ?_ | refine zzb ?_ | refine zzk ?_
  · exact zzt
  exact tr_ret ⟨.inr rfl, _, _, rfl, trivial, rfl⟩
set_option maxRecDepth 10000 in
set_option maxHeartbeats 2000000 in
theorem badReal_fn (b : BitVec 64) : FnD Tryd.prog 50 [.one (.e (eQ b))] (.v (.bool (badQ b))) := by
  refine fn_intro (T := tab) tOk Tryd.func50 rfl (by kernel_rfl) (by simp [Tryd.ntmps50]) ?_
  intro X hX
  have hnt : X.nt = 10 := hX
  clear hX
  repeat' first | refine zzs ?_ | refine zzr hnt rfl ?_ ?_ | refine zzd hnt rfl ?_ ?_ | refine zzb ?_ | refine zzk ?_
  · exact zzt
  · exact zzt
  exact tr_ret ⟨.inr rfl, _, _, rfl, trivial, rfl⟩
theorem badQ_iff (b : BitVec 64) : badQ b = true ↔ b.toNat = 9223372036854775808 ∨ infR < rgF b.toNat := by
  have hb := b.isLt
  unfold badQ
  rw [condT_tt, decide_eq_true_eq, decide_eq_true_eq, show IntKind.u64.wrap ((b.toNat : Int) * 2 ^ min (Int.toNat 1) IntKind.u64.bits) = (((b.toNat * 2) % 18446744073709551616 : Nat) : Int) by
    unfold IntKind.wrap
    simp [IntKind.bits, IntKind.signed]]
  unfold infR rgF
  omega
theorem badR_eq (b : BitVec 64) : badR b = badQ b := by
  have hb := b.isLt
  rw [Bool.eq_iff_iff, badQ_iff]
  unfold badR
  rw [condT_tt, condF_tt]
  rw [show FloatKind.f64.format = Ieee.double from rfl]
  rcases Nat.lt_or_ge infR (rgF b.toNat) with h | h
  · rw [ordF_nan (.inl h)]
    exact iff_of_true (.inl rfl) (.inr h)
  · have h0 : rgF 0 = 0 := rfl
    rw [ordF h h, ordF h (by rw [h0]; exact Nat.zero_le _)]
    have e1 : compare (rkF b.toNat) (rkF b.toNat) = .eq := by
      show compareOfLessAndEq _ _ = _
      unfold compareOfLessAndEq
      rw [if_neg (by omega), if_pos rfl]
    have e2 : ((some (compare (rkF b.toNat) (rkF 0)) == some Ordering.eq) = true) ↔ rgF b.toNat = 0 := by
      have : rkF 0 = 0 := rfl
      rw [this]
      show ((some (compareOfLessAndEq (rkF b.toNat) 0) == some Ordering.eq) = true) ↔ _
      unfold compareOfLessAndEq rkF
      by_cases hz : rgF b.toNat = 0
      · rw [hz]; cases ngF b.toNat <;> exact iff_of_true rfl rfl
      · cases ngF b.toNat with
        | true => simp only [if_true]; rw [if_pos (by omega)]; exact iff_of_false (by decide) hz
        | false => simp only [Bool.false_eq_true, if_false]; rw [if_neg (by omega), if_neg (by omega)]; exact iff_of_false (by decide) hz
    have e3 : (decide (IntKind.i64.wrap (b.toNat : Int) < 0) = true) ↔ 9223372036854775808 ≤ b.toNat := by
      rw [decide_eq_true_eq]
      unfold IntKind.wrap
      simp [IntKind.bits, IntKind.signed]
      omega
    rw [e1, e2, e3]
    have : ((some Ordering.eq != some Ordering.eq) = true) ↔ False := by decide
    rw [this, false_or]
    unfold infR rgF at *
    omega
def W0 (v : Val) : Val := ⟨v.k, if v.k = 1 ∨ v.k = 2 then v.i else 0, if v.k = 3 then v.b else 0, if v.k = 4 then v.t else []⟩
def fq (v : Val) : Bool := bif bif bif !decide (v.k = (W0 v).k ∧ v.i = (W0 v).i ∧ v.b.toNat = (W0 v).b.toNat ∧ v.t = (W0 v).t) then true else bif decide (v.k = 1) then decide (1 < IntKind.u64.wrap v.i) else false then true
      else bif decide (v.k = 3) then badQ v.b else false then true else !vld v.t
theorem fault_pure {v : Val} (hv : v.ok) (h0 : 0 ≤ v.k) (h4 : v.k ≤ 4) :
    (if (v.k ≠ 4 ∧ v.t.length ≠ 0) ∨ (v.k ≠ 3 ∧ v.b.toNat ≠ 0) ∨ (v.k ≠ 2 ∧ v.k ≠ 1 ∧ v.i ≠ 0) then (3 : Int)
      else if v.k = 1 ∧ v.i ≠ 0 ∧ v.i ≠ 1 then 3
      else if v.k = 3 ∧ badR v.b = true then 3
      else if v.k = 4 ∧ vld v.t = false then 3 else 0) = if fq v = true then 3 else 0 := by
  have ew : (1 < IntKind.u64.wrap v.i) ↔ ¬ (v.i = 0 ∨ v.i = 1) := by
    have := hv.2
    rw [show IntKind.u64.wrap v.i = v.i % 18446744073709551616 by unfold IntKind.wrap; simp [IntKind.bits, IntKind.signed]]
    omega
  have et : v.t = [] → vld v.t = true := fun h => by rw [h]; rfl
  rw [badR_eq]
  have hc : (v.k = (W0 v).k ∧ v.i = (W0 v).i ∧ v.b.toNat = (W0 v).b.toNat ∧ v.t = (W0 v).t) ↔ ¬ ((v.k ≠ 4 ∧ v.t.length ≠ 0) ∨ (v.k ≠ 3 ∧ v.b.toNat ≠ 0) ∨ (v.k ≠ 2 ∧ v.k ≠ 1 ∧ v.i ≠ 0)) := by
    have hl : v.t.length = 0 ↔ v.t = [] := List.length_eq_zero_iff
    have hz : (0 : BitVec 64).toNat = 0 := rfl
    unfold W0
    dsimp only
    by_cases k1 : v.k = 1 ∨ v.k = 2
    · rw [if_pos k1, if_neg (by omega), if_neg (by omega), ← hl, hz]
      omega
    · rw [if_neg k1]
      by_cases k3 : v.k = 3
      · rw [if_pos k3, if_neg (by omega), ← hl]
        omega
      · rw [if_neg k3, hz]
        by_cases k4 : v.k = 4
        · rw [if_pos k4]
          rw [eq_self v.t, and_true]
          omega
        · rw [if_neg k4, ← hl]
          omega
  have key : fq v = true ↔ ((((v.k ≠ 4 ∧ v.t.length ≠ 0) ∨ (v.k ≠ 3 ∧ v.b.toNat ≠ 0) ∨ (v.k ≠ 2 ∧ v.k ≠ 1 ∧ v.i ≠ 0)) ∨ v.k = 1 ∧ v.i ≠ 0 ∧ v.i ≠ 1) ∨ v.k = 3 ∧ badQ v.b = true) ∨ vld v.t = false := by
    unfold fq
    simp only [zz1, zz2, zz3, zz4, zz5, zz6, zz7, zz8]
    rw [hc, ew, Classical.not_not, not_or]
  by_cases h1 : (v.k ≠ 4 ∧ v.t.length ≠ 0) ∨ (v.k ≠ 3 ∧ v.b.toNat ≠ 0) ∨ (v.k ≠ 2 ∧ v.k ≠ 1 ∧ v.i ≠ 0)
  · rw [if_pos h1, if_pos (key.2 (.inl (.inl (.inl h1))))]
  · rw [if_neg h1]
    have hte : v.k ≠ 4 → vld v.t = true := fun h => et (List.length_eq_zero_iff.1 (by omega))
    by_cases h2 : v.k = 1 ∧ v.i ≠ 0 ∧ v.i ≠ 1
    · rw [if_pos h2, if_pos (key.2 (.inl (.inl (.inr h2))))]
    · rw [if_neg h2]
      by_cases h3 : v.k = 3 ∧ badQ v.b = true
      · rw [if_pos h3, if_pos (key.2 (.inl (.inr h3)))]
      · rw [if_neg h3]
        by_cases h4 : v.k = 4 ∧ vld v.t = false
        · rw [if_pos h4, if_pos (key.2 (.inr h4.2))]
        · rw [if_neg h4, if_neg]
          intro h
          rcases key.1 h with ((h | h) | h) | h
          · exact h1 h
          · exact h2 h
          · exact h3 h
          · by_cases k4 : v.k = 4
            · exact h4 ⟨k4, h⟩
            · rw [hte k4] at h
              cases h
theorem eqV1 (v w : Val) : (eqD tab 9 25 (.agg (.es (List.take 4 (List.drop 0 (eVal v))))) (.agg (.es (List.take 4 (List.drop 0 (eVal w)))))).1 :=
  ⟨⟨Nat.le_of_ble_eq_true rfl, rfl⟩, ⟨Nat.le_of_ble_eq_true rfl, rfl⟩, rfl, ⟨Nat.le_of_ble_eq_true rfl, rfl⟩, ⟨Nat.le_of_ble_eq_true rfl, rfl⟩, rfl, ⟨Nat.le_of_ble_eq_true rfl, rfl⟩, ⟨Nat.le_of_ble_eq_true rfl, rfl⟩, rfl, ⟨Nat.le_of_ble_eq_true rfl, rfl⟩, ⟨Nat.le_of_ble_eq_true rfl, rfl⟩, trivial, trivial⟩
theorem eqV2 (v w : Val) : (eqD tab 9 25 (.agg (.es (List.take 4 (List.drop 0 (eVal v))))) (.agg (.es (List.take 4 (List.drop 0 (eVal w)))))).2 = decide (v.k = w.k ∧ v.i = w.i ∧ v.b.toNat = w.b.toNat ∧ v.t = w.t) := by
  show (v.k == w.k && (v.i == w.i && ((v.b.toNat : Int) == (w.b.toNat : Int) && (strEq (strB v.t) (strB w.t) && true)))) = _
  rw [strEq_B, Bool.eq_iff_iff]
  simp
  omega
set_option maxRecDepth 10000 in
set_option maxHeartbeats 2000000 in
theorem fault_fn (v : Val) (hv : v.ok) : FnG Tryd.prog 37 gK [.agg (.es (eVal v))] (.one (.e (eI (chk v)))) := by
  refine fn_introG (T := tab) tOk Tryd.func37 rfl (by kernel_rfl) (by simp [Tryd.ntmps37]) ?_
  intro X hX
  have hnt : X.nt = 61 := hX
  clear hX
  have hl : (strB v.t).size = v.t.length := strB_size v.t
  repeat' first | refine zzs ?_ | refine zzb ?_ | refine zzk ?_
  first | refine zzr hnt rfl ?_ ?_ | refine zzd hnt rfl ?_ ?_
  · exact zzt
  repeat' first | refine zzs ?_ | refine zzb ?_ | refine zzk ?_
  first | refine zzr hnt rfl ?_ ?_ | refine zzd hnt rfl ?_ ?_
  · exact zzt
  repeat' first | refine zzs ?_ | refine zzb ?_ | refine zzk ?_
  first | refine zzr hnt rfl ?_ ?_ | refine zzd hnt rfl ?_ ?_
  · exact zzt
  first | refine tr_join (σ := Unit) (fun x => St.of [(1, .one (.ptr 1 0 0)), (3, .one (.ptr 3 0 0)), ((1000000 + 3), .one (.eptr fsE)), ((1000000 + 4), .one (.eptr acE))] [(1, ⟨0, .box (.es (eVal v)), 0⟩), (3, ⟨0, .box (.es (eVal (W0 v))), 0⟩)]) (fun x => 0 ≤ v.k ∧ v.k ≤ 4) ?_ ?_ | refine tr_seq (tr_join (σ := Unit) (fun x => St.of [(1, .one (.ptr 1 0 0)), (3, .one (.ptr 3 0 0)), ((1000000 + 3), .one (.eptr fsE)), ((1000000 + 4), .one (.eptr acE))] [(1, ⟨0, .box (.es (eVal v)), 0⟩), (3, ⟨0, .box (.es (eVal (W0 v))), 0⟩)]) (fun x => 0 ≤ v.k ∧ v.k ≤ 4) ?_ ?_)
  · repeat' first | refine zzs ?_ | refine zzr hnt rfl ?_ ?_ | refine zzd hnt rfl ?_ ?_ | refine zzb ?_ | refine zzk ?_
    · exact zzt
    repeat' first | refine zzs ?_ | refine zzb ?_ | refine zzk ?_
    refine tr_cond rfl (fun hc => ?_) (fun hc => ?_)
    · simp only [zz1, zz2, zz3, zz4, zz5, zz6, zz7, zz8] at hc
      (try simp only [eVal0] at hc)
      (try simp only [zz1, zz2, zz3, zz4, zz5, zz6, zz7, zz8] at hc)
      have w0 : W0 v = ⟨v.k, 0, 0, []⟩ := by unfold W0; rw [if_neg (by omega), if_neg (by omega), if_neg (by omega)]
      repeat' first | refine zzs ?_ | refine zzb ?_ | refine zzk ?_
      refine ⟨(), (by omega), le_of (ad := []) ⟨zzl, zzl, zzl, zzl, trivial⟩ (memOk_box rfl rfl rfl (memOk_box rfl rfl (by rw [w0]; rfl) trivial))⟩
    simp only [zz1, zz2, zz3, zz4, zz5, zz6, zz7, zz8] at hc
    (try simp only [eVal0] at hc)
    (try simp only [zz1, zz2, zz3, zz4, zz5, zz6, zz7, zz8] at hc)
    repeat' first | refine zzs ?_ | refine zzr hnt rfl ?_ ?_ | refine zzd hnt rfl ?_ ?_ | refine zzb ?_ | refine zzk ?_
    · exact zzt
    repeat' first | refine zzs ?_ | refine zzb ?_ | refine zzk ?_
    refine tr_cond rfl (fun hc => ?_) (fun hc => ?_)
    · simp only [zz1, zz2, zz3, zz4, zz5, zz6, zz7, zz8] at hc
      (try simp only [eVal0] at hc)
      (try simp only [zz1, zz2, zz3, zz4, zz5, zz6, zz7, zz8] at hc)
      have w0 : W0 v = ⟨v.k, v.i, 0, []⟩ := by unfold W0; rw [if_pos (by omega), if_neg (by omega), if_neg (by omega)]
      have hk := hc
      repeat' first | refine zzs ?_ | refine zzb ?_ | refine zzk ?_
      refine tr_cond rfl (fun hc => ?_) (fun hc => ?_)
      · repeat' first | refine zzs ?_ | refine zzr hnt rfl ?_ ?_ | refine zzd hnt rfl ?_ ?_ | refine zzb ?_ | refine zzk ?_
        · exact zzt
        repeat' first | refine zzs ?_ | refine zzb ?_ | refine zzk ?_
        refine ⟨(), (by omega), le_of (ad := []) ⟨zzl, zzl, zzl, zzl, trivial⟩ (memOk_box rfl rfl rfl (memOk_box rfl rfl (by rw [w0]; rfl) trivial))⟩
      simp only [zz1, zz2, zz3, zz4, zz5, zz6, zz7, zz8] at hc
      (try simp only [eVal0] at hc)
      (try simp only [zz1, zz2, zz3, zz4, zz5, zz6, zz7, zz8] at hc)
      exact absurd hk hc
    simp only [zz1, zz2, zz3, zz4, zz5, zz6, zz7, zz8] at hc
    (try simp only [eVal0] at hc)
    (try simp only [zz1, zz2, zz3, zz4, zz5, zz6, zz7, zz8] at hc)
    repeat' first | refine zzs ?_ | refine zzr hnt rfl ?_ ?_ | refine zzd hnt rfl ?_ ?_ | refine zzb ?_ | refine zzk ?_
    · exact zzt
    repeat' first | refine zzs ?_ | refine zzb ?_ | refine zzk ?_
    refine tr_cond rfl (fun hc => ?_) (fun hc => ?_)
    · simp only [zz1, zz2, zz3, zz4, zz5, zz6, zz7, zz8] at hc
      (try simp only [eVal0] at hc)
      (try simp only [zz1, zz2, zz3, zz4, zz5, zz6, zz7, zz8] at hc)
      have w0 : W0 v = ⟨v.k, v.i, 0, []⟩ := by unfold W0; rw [if_pos (by omega), if_neg (by omega), if_neg (by omega)]
      repeat' first | refine zzs ?_ | refine zzr hnt rfl ?_ ?_ | refine zzd hnt rfl ?_ ?_ | refine zzb ?_ | refine zzk ?_
      · exact zzt
      repeat' first | refine zzs ?_ | refine zzb ?_ | refine zzk ?_
      refine ⟨(), (by omega), le_of (ad := []) ⟨zzl, zzl, zzl, zzl, trivial⟩ (memOk_box rfl rfl rfl (memOk_box rfl rfl (by rw [w0]; rfl) trivial))⟩
    simp only [zz1, zz2, zz3, zz4, zz5, zz6, zz7, zz8] at hc
    (try simp only [eVal0] at hc)
    (try simp only [zz1, zz2, zz3, zz4, zz5, zz6, zz7, zz8] at hc)
    repeat' first | refine zzs ?_ | refine zzr hnt rfl ?_ ?_ | refine zzd hnt rfl ?_ ?_ | refine zzb ?_ | refine zzk ?_
    · exact zzt
    repeat' first | refine zzs ?_ | refine zzb ?_ | refine zzk ?_
    refine tr_cond rfl (fun hc => ?_) (fun hc => ?_)
    · simp only [zz1, zz2, zz3, zz4, zz5, zz6, zz7, zz8] at hc
      (try simp only [eVal0] at hc)
      (try simp only [zz1, zz2, zz3, zz4, zz5, zz6, zz7, zz8] at hc)
      have w0 : W0 v = ⟨v.k, 0, v.b, []⟩ := by unfold W0; rw [if_neg (by omega), if_pos (by omega), if_neg (by omega)]
      repeat' first | refine zzs ?_ | refine zzr hnt rfl ?_ ?_ | refine zzd hnt rfl ?_ ?_ | refine zzb ?_ | refine zzk ?_
      · exact zzt
      repeat' first | refine zzs ?_ | refine zzb ?_ | refine zzk ?_
      refine ⟨(), (by omega), le_of (ad := []) ⟨zzl, zzl, zzl, zzl, trivial⟩ (memOk_box rfl rfl rfl (memOk_box rfl rfl (by rw [w0]; rfl) trivial))⟩
    simp only [zz1, zz2, zz3, zz4, zz5, zz6, zz7, zz8] at hc
    (try simp only [eVal0] at hc)
    (try simp only [zz1, zz2, zz3, zz4, zz5, zz6, zz7, zz8] at hc)
    repeat' first | refine zzs ?_ | refine zzr hnt rfl ?_ ?_ | refine zzd hnt rfl ?_ ?_ | refine zzb ?_ | refine zzk ?_
    · exact zzt
    repeat' first | refine zzs ?_ | refine zzb ?_ | refine zzk ?_
    refine tr_cond rfl (fun hc => ?_) (fun hc => ?_)
    · simp only [zz1, zz2, zz3, zz4, zz5, zz6, zz7, zz8] at hc
      (try simp only [eVal0] at hc)
      (try simp only [zz1, zz2, zz3, zz4, zz5, zz6, zz7, zz8] at hc)
      have w0 : W0 v = ⟨v.k, 0, 0, v.t⟩ := by unfold W0; rw [if_neg (by omega), if_neg (by omega), if_pos (by omega)]
      repeat' first | refine zzs ?_ | refine zzr hnt rfl ?_ ?_ | refine zzd hnt rfl ?_ ?_ | refine zzb ?_ | refine zzk ?_
      · exact zzt
      repeat' first | refine zzs ?_ | refine zzb ?_ | refine zzk ?_
      refine ⟨(), (by omega), le_of (ad := []) ⟨zzl, zzl, zzl, zzl, trivial⟩ (memOk_box rfl rfl rfl (memOk_box rfl rfl (by rw [w0]; rfl) trivial))⟩
    simp only [zz1, zz2, zz3, zz4, zz5, zz6, zz7, zz8] at hc
    (try simp only [eVal0] at hc)
    (try simp only [zz1, zz2, zz3, zz4, zz5, zz6, zz7, zz8] at hc)
    repeat' first | refine zzs ?_ | refine zzr hnt rfl ?_ ?_ | refine zzd hnt rfl ?_ ?_ | refine zzb ?_ | refine zzk ?_
    · exact zzt
    unfold chk
    rw [if_pos (by omega)]
    exact tr_ret ⟨.inr rfl, _, _, rfl, trivial, rfl⟩
  rintro _ ⟨hk0, hk4⟩
  unfold chk
  rw [if_neg (by omega)]
  repeat' first | refine zzs ?_ | refine zzr hnt rfl ?_ ?_ | refine zzd hnt rfl ?_ ?_ | refine zzb ?_ | refine zzk ?_
  · exact zzt
  repeat' first | refine zzs ?_ | refine zzb ?_ | refine zzk ?_
  refine tr_cond rfl (fun hc => ?_) (fun hc => ?_)
  · simp only [zz1, zz2, zz3, zz4, zz5, zz6, zz7, zz8] at hc
    (try simp only [eVal0, eVal1, eVal2, eVal3, hl] at hc)
    (try simp only [zz1, zz2, zz3, zz4, zz5, zz6, zz7, zz8] at hc)
    rw [if_pos (by omega)]
    repeat' first | refine zzs ?_ | refine zzr hnt rfl ?_ ?_ | refine zzd hnt rfl ?_ ?_ | refine zzb ?_ | refine zzk ?_
    · exact zzt
    exact tr_ret ⟨.inr rfl, _, _, rfl, trivial, rfl⟩
  simp only [zz1, zz2, zz3, zz4, zz5, zz6, zz7, zz8] at hc
  (try simp only [eVal0, eVal1, eVal2, eVal3, hl] at hc)
  (try simp only [zz1, zz2, zz3, zz4, zz5, zz6, zz7, zz8] at hc)
  rw [if_neg (by omega)]
  have e1 := eqV1 v (W0 v)
  repeat' first | refine zzs ?_ | refine zzb ?_ | refine zzk ?_
  refine tr_region (zzx hnt rfl ?_ (callG rfl rfl rfl rfl rfl rfl hnt rfl (fun hq => ?_) (fun hq => badReal_fn v.b) (zzx hnt rfl ?_ (callVG rfl rfl rfl rfl rfl rfl hnt rfl (fun hq => ?_) rfl (fun hq => valid_fn v.t) (zzx hnt rfl ?_ (Lex.nil _)))))) ?_
  · exact zza
  · exact zzt
  · exact zza
  · exact zzt
  · exact zza
  rw [eqV2]
  repeat' first | refine zzs ?_ | refine zzb ?_ | refine zzk ?_
  refine tr_cond rfl (fun hc => ?_) (fun hc => ?_)
  · have hc : fq v = true := hc
    rw [fault_pure hv hk0 hk4, if_pos hc]
    repeat' first | refine zzs ?_ | refine zzr hnt rfl ?_ ?_ | refine zzd hnt rfl ?_ ?_ | refine zzb ?_ | refine zzk ?_
    · exact zzt
    exact tr_ret ⟨.inr rfl, _, _, rfl, trivial, rfl⟩
  have hc : fq v = false := hc
  rw [fault_pure hv hk0 hk4, if_neg (by rw [hc]; exact Bool.false_ne_true)]
  repeat' first | refine zzs ?_ | refine zzr hnt rfl ?_ ?_ | refine zzd hnt rfl ?_ ?_ | refine zzb ?_ | refine zzk ?_
  · exact zzt
  exact tr_ret ⟨.inr rfl, _, _, rfl, trivial, rfl⟩
end Go.Proofs.YtcdifgacoleckaaDoor
