/- value.Compare, Equal, Less and the document's answers: the order. No condition. -/
import Derived.Test.YthnadkafegmacaaGreatDoorTCmp
namespace Go.Proofs.YthnadkafegmacaaGreatDoor
open Go Go.RowKit Go.Proofs.YthnadkafegmacaaGreatDoor.Ab
set_option linter.unusedSimpArgs false
set_option linter.unusedVariables false

/-- reals that may be: their order is that of their risen bits -/
theorem real_ord {a b : BitVec 64} (ha : badQ a = false) (hb : badQ b = false) : Ieee.double.order a.toNat b.toNat = some (compare (rkF a.toNat) (rkF b.toNat)) ∧ (rkF a.toNat < rkF b.toNat ↔ ((rsn a).toNat : Int) < ((rsn b).toNat : Int)) ∧ (rkF b.toNat < rkF a.toNat ↔ ((rsn b).toNat : Int) < ((rsn a).toNat : Int)) := by
  have h1 : ∀ x : BitVec 64, badQ x = false → x.toNat ≠ 9223372036854775808 ∧ rgF x.toNat ≤ infR := fun x h => by
    have := mt (badQ_iff x).2 (by rw [h]; exact Bool.false_ne_true)
    omega
  have h2 : ∀ x : BitVec 64, (rsn x).toNat = if x.toNat < 9223372036854775808 then x.toNat + 9223372036854775808 else 18446744073709551615 - x.toNat := fun x => by
    have := x.isLt
    unfold rsn
    split
    · rw [BitVec.toNat_add, show (BitVec.ofInt 64 9223372036854775808).toNat = 9223372036854775808 from rfl]
      omega
    · rw [BitVec.toNat_not]
  have h3 : ∀ x : BitVec 64, rkF x.toNat = if x.toNat < 9223372036854775808 then (x.toNat : Int) else -((x.toNat : Int) - 9223372036854775808) := fun x => by
    have hx := x.isLt
    unfold rkF ngF rgF
    split <;> split
    · rename_i h h'
      simp at h
      omega
    · rename_i h h'
      simp at h
      omega
    · rename_i h h'
      simp at h
      omega
    · rename_i h h'
      simp at h
      omega
  have ia := a.isLt
  have ib := b.isLt
  obtain ⟨a1, a2⟩ := h1 a ha
  obtain ⟨b1, b2⟩ := h1 b hb
  refine ⟨ordF a2 b2, ?_, ?_⟩ <;>
  · rw [h2, h2, h3, h3]
    split <;> split <;> omega
theorem cmp_lt {x y : Int} : (some (compare x y) == some Ordering.lt) = decide (x < y) := by
  show (some (compareOfLessAndEq x y) == some Ordering.lt) = _
  unfold compareOfLessAndEq
  by_cases h : x < y
  · rw [if_pos h, decide_eq_true h]; rfl
  · rw [if_neg h, decide_eq_false h]
    split <;> rfl
theorem cmp_gt {x y : Int} : (some (compare x y) == some Ordering.gt) = decide (y < x) := by
  show (some (compareOfLessAndEq x y) == some Ordering.gt) = _
  unfold compareOfLessAndEq
  by_cases h : x < y
  · rw [if_pos h, decide_eq_false (by omega)]; rfl
  · rw [if_neg h]
    by_cases e : x = y
    · rw [if_pos e, decide_eq_false (by omega)]; rfl
    · rw [if_neg e, decide_eq_true (by omega)]; rfl
def outB (l m : Bool) : Int := bif l then -1 else bif m then 1 else 0
theorem outB_cmp (x y : Int) : outB (decide (x < y)) (decide (y < x)) = cmpI x y := by
  unfold outB cmpI
  by_cases h : x < y
  · rw [if_pos h, decide_eq_true h]; rfl
  · rw [if_neg h, decide_eq_false h]
    by_cases k : y < x
    · rw [if_pos k, decide_eq_true k]; rfl
    · rw [if_neg k, decide_eq_false k]; rfl
theorem outB_cmpT (x y : Byt) : outB (strLt (strB x) (strB y)) (!(strLt (strB x) (strB y) || strEq (strB x) (strB y))) = cmpT x y := by
  rw [strEq_B]
  have e : strLt (strB x) (strB y) = Op.bytesLess x y := by unfold strLt; rw [bytes_list, bytes_list, strB_list, strB_list]
  rw [e]
  unfold outB cmpT
  cases Op.bytesLess x y with
  | true => rfl
  | false =>
    by_cases h : x = y
    · rw [if_pos h, decide_eq_true h]; rfl
    · rw [if_neg h, decide_eq_false h]; rfl
set_option maxRecDepth 10000 in
set_option maxHeartbeats 2000000 in
theorem order_fn (a b : Val) (ha : chk a = 0) (hb : chk b = 0) : FnD Tryz.prog 342 [.agg (.es (eVal a)), .agg (.es (eVal b))] (.one (.e (eI (ordV a b)))) := by
  refine fn_intro (T := tab) tOk Tryz.func342 rfl (by kernel_rfl) (by simp [Tryz.ntmps342]) ?_
  intro X hX
  have hnt : X.nt = 67 := hX
  clear hX
  have ka := chk_kind ha
  have kb := chk_kind hb
  repeat' first | refine zzs ?_ | refine zzb ?_ | refine zzk ?_
  first | refine zzr hnt rfl ?_ ?_ | refine zzd hnt rfl ?_ ?_
  · exact zzt
  repeat' first | refine zzs ?_ | refine zzb ?_ | refine zzk ?_
  first | refine zzr hnt rfl ?_ ?_ | refine zzd hnt rfl ?_ ?_
  · exact zzt
  first | refine tr_join (σ := Bool × Bool) (fun x => St.of [(5, .v (.bool x.1)), (6, .v (.bool x.2))] []) (fun x => outB x.1 x.2 = ordV a b) ?_ ?_ | refine tr_seq (tr_join (σ := Bool × Bool) (fun x => St.of [(5, .v (.bool x.1)), (6, .v (.bool x.2))] []) (fun x => outB x.1 x.2 = ordV a b) ?_ ?_)
  · repeat' first | refine zzs ?_ | refine zzr hnt rfl ?_ ?_ | refine zzd hnt rfl ?_ ?_ | refine zzb ?_ | refine zzk ?_
    · exact zzt
    repeat' first | refine zzs ?_ | refine zzb ?_ | refine zzk ?_
    refine tr_cond rfl (fun hc => ?_) (fun hc => ?_)
    · simp only [zz1, zz2, zz3, zz4, zz5, zz6, zz7, zz8] at hc
      (try simp only [eVal0] at hc)
      (try simp only [zz1, zz2, zz3, zz4, zz5, zz6, zz7, zz8] at hc)
      repeat' first | refine zzs ?_ | refine zzr hnt rfl ?_ ?_ | refine zzd hnt rfl ?_ ?_ | refine zzb ?_ | refine zzk ?_
      · exact zzt
      repeat' first | refine zzs ?_ | refine zzb ?_ | refine zzk ?_
      refine ⟨((decide (a.k<b.k)), (decide (b.k<a.k))), ?_, le_of (ad := []) ⟨zzl, zzl, trivial⟩ trivial⟩
      unfold ordV
      rw [if_pos hc]
      exact outB_cmp a.k b.k
    simp only [zz1, zz2, zz3, zz4, zz5, zz6, zz7, zz8] at hc
    (try simp only [eVal0] at hc)
    (try simp only [zz1, zz2, zz3, zz4, zz5, zz6, zz7, zz8] at hc)
    have hk : a.k = b.k := by omega
    repeat' first | refine zzs ?_ | refine zzr hnt rfl ?_ ?_ | refine zzd hnt rfl ?_ ?_ | refine zzb ?_ | refine zzk ?_
    · exact zzt
    repeat' first | refine zzs ?_ | refine zzb ?_ | refine zzk ?_
    refine tr_cond rfl (fun hc => ?_) (fun hc => ?_)
    · simp only [zz1, zz2, zz3, zz4, zz5, zz6, zz7, zz8] at hc
      (try simp only [eVal0] at hc)
      (try simp only [zz1, zz2, zz3, zz4, zz5, zz6, zz7, zz8] at hc)
      obtain ⟨r1, r2, r3⟩ := real_ord (chk_real ha hc) (chk_real hb (by omega))
      repeat' first | refine zzs ?_ | refine zzb ?_ | refine zzk ?_
      refine tr_draw (T := tab) tOk hnt mixedR (lexD (T := tab) rfl ?_ (callED rfl rfl rfl rfl rfl rfl rfl rfl (frombits_fn (a.b.toNat : Int)) (lexD (T := tab) rfl ?_ (callED rfl rfl rfl rfl rfl rfl rfl rfl (frombits_fn (b.b.toNat : Int)) (lexD (T := tab) rfl ?_ (.nil _)))))) (by decide +kernel) ?_
      · exact zzt
      · exact zzt
      · exact zzt
      repeat' first | refine zzs ?_ | refine zzb ?_ | refine zzk ?_
      first | refine zzr hnt rfl ?_ ?_ | refine zzd hnt rfl ?_ ?_
      · exact zzt
      repeat' first | refine zzs ?_ | refine zzb ?_ | refine zzk ?_
      refine ⟨(decide (rkF a.b.toNat < rkF b.b.toNat), decide (rkF b.b.toNat < rkF a.b.toNat)), ?_, le_of (ad := []) ⟨?_, ?_, trivial⟩ trivial⟩
      · dsimp only
        rw [outB_cmp]
        unfold ordV cmpI
        rw [if_neg (not_not_intro hk), if_pos hc]
        simp only [r2, r3]
      · refine congrArg (fun z : Bool => E.v (.bool z)) ?_
        rw [Int.toNat_natCast, Int.toNat_natCast, show FloatKind.f64.format = Ieee.double from rfl, r1, cmp_lt]
      · refine congrArg (fun z : Bool => E.v (.bool z)) ?_
        rw [Int.toNat_natCast, Int.toNat_natCast, show FloatKind.f64.format = Ieee.double from rfl, r1, cmp_gt]
    simp only [zz1, zz2, zz3, zz4, zz5, zz6, zz7, zz8] at hc
    (try simp only [eVal0] at hc)
    (try simp only [zz1, zz2, zz3, zz4, zz5, zz6, zz7, zz8] at hc)
    repeat' first | refine zzs ?_ | refine zzr hnt rfl ?_ ?_ | refine zzd hnt rfl ?_ ?_ | refine zzb ?_ | refine zzk ?_
    · exact zzt
    repeat' first | refine zzs ?_ | refine zzb ?_ | refine zzk ?_
    refine tr_cond rfl (fun hc => ?_) (fun hc => ?_)
    · simp only [zz1, zz2, zz3, zz4, zz5, zz6, zz7, zz8] at hc
      (try simp only [eVal0] at hc)
      (try simp only [zz1, zz2, zz3, zz4, zz5, zz6, zz7, zz8] at hc)
      repeat' first | refine zzs ?_ | refine zzr hnt rfl ?_ ?_ | refine zzd hnt rfl ?_ ?_ | refine zzb ?_ | refine zzk ?_
      · exact zzt
      repeat' first | refine zzs ?_ | refine zzb ?_ | refine zzk ?_
      refine ⟨((strLt (strB a.t) (strB b.t)), (!(strLt (strB a.t) (strB b.t)||strEq (strB a.t) (strB b.t)))), ?_, le_of (ad := []) ⟨zzl, zzl, trivial⟩ trivial⟩
      dsimp only
      unfold ordV
      rw [if_neg (not_not_intro hk), if_neg (by omega), if_pos hc]
      exact outB_cmpT a.t b.t
    simp only [zz1, zz2, zz3, zz4, zz5, zz6, zz7, zz8] at hc
    (try simp only [eVal0] at hc)
    (try simp only [zz1, zz2, zz3, zz4, zz5, zz6, zz7, zz8] at hc)
    repeat' first | refine zzs ?_ | refine zzr hnt rfl ?_ ?_ | refine zzd hnt rfl ?_ ?_ | refine zzb ?_ | refine zzk ?_
    · exact zzt
    repeat' first | refine zzs ?_ | refine zzb ?_ | refine zzk ?_
    refine ⟨((decide (a.i<b.i)), (decide (b.i<a.i))), ?_, le_of (ad := []) ⟨zzl, zzl, trivial⟩ trivial⟩
    unfold ordV
    rw [if_neg (not_not_intro hk), if_neg (by omega), if_neg (by omega)]
    exact outB_cmp a.i b.i
  rintro ⟨l, m⟩ hx
  dsimp only at hx ⊢
  rw [← hx]
  repeat' first | refine zzs ?_ | refine zzr hnt rfl ?_ ?_ | refine zzd hnt rfl ?_ ?_ | refine zzb ?_ | refine zzk ?_
  · exact zzt
  cases l with
  | true =>
    refine tr_cond rfl (fun _ => ?_) (fun h => nomatch (show true = false from h))
    repeat' first | refine zzs ?_ | refine zzr hnt rfl ?_ ?_ | refine zzd hnt rfl ?_ ?_ | refine zzb ?_ | refine zzk ?_
    · exact zzt
    exact tr_ret ⟨.inr rfl, _, _, rfl, trivial, rfl⟩
  | false =>
  refine tr_cond rfl (fun h => nomatch (show false = true from h)) (fun _ => ?_)
  repeat' first | refine zzs ?_ | refine zzr hnt rfl ?_ ?_ | refine zzd hnt rfl ?_ ?_ | refine zzb ?_ | refine zzk ?_
  · exact zzt
  cases m with
  | true =>
    refine tr_cond rfl (fun _ => ?_) (fun h => nomatch (show true = false from h))
    repeat' first | refine zzs ?_ | refine zzr hnt rfl ?_ ?_ | refine zzd hnt rfl ?_ ?_ | refine zzb ?_ | refine zzk ?_
    · exact zzt
    exact tr_ret ⟨.inr rfl, _, _, rfl, trivial, rfl⟩
  | false =>
  refine tr_cond rfl (fun h => nomatch (show false = true from h)) (fun _ => ?_)
  repeat' first | refine zzs ?_ | refine zzr hnt rfl ?_ ?_ | refine zzd hnt rfl ?_ ?_ | refine zzb ?_ | refine zzk ?_
  · exact zzt
  exact tr_ret ⟨.inr rfl, _, _, rfl, trivial, rfl⟩
def rII (r : Int × Int) : D := .tup [(false, .es [eI r.1]), (false, .es [eI r.2])]
end Go.Proofs.YthnadkafegmacaaGreatDoor
