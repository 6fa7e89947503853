/- value.Compare, Equal, Less and the document's answers: the laws. No condition. -/
import Derived.Test.YthnadkafegmacaaGreatDoorTCm2
namespace Go.Proofs.YthnadkafegmacaaGreatDoor
open Go Go.RowKit Go.Proofs.YthnadkafegmacaaGreatDoor.Ab
set_option linter.unusedSimpArgs false
set_option linter.unusedVariables false

theorem shift_top {i : Int} (h0 : -9223372036854775808 ≤ i) (h1 : i ≤ 9223372036854775807) : IntKind.u64.wrap (IntKind.u64.wrap i + 9223372036854775808) = ((BitVec.ofInt 64 (i + 9223372036854775808)).toNat : Int) ∧ ((BitVec.ofInt 64 (i + 9223372036854775808)).toNat : Int) = i + 9223372036854775808 := by
  have e : ∀ n : Int, IntKind.u64.wrap n = n % 18446744073709551616 := fun n => by unfold IntKind.wrap; simp [IntKind.bits, IntKind.signed]
  rw [e, e, BitVec.toNat_ofInt]
  constructor <;> omega
theorem cmpI_sub (x y : Int) : cmpI (x - y) 0 = cmpI x y := by
  unfold cmpI
  by_cases h : x < y
  · rw [if_pos (by omega), if_pos h]
  · rw [if_neg (by omega), if_neg h]
    by_cases k : y < x
    · rw [if_pos (by omega), if_pos k]
    · rw [if_neg (by omega), if_neg k]
theorem cmpI_add (x y c : Int) : cmpI (x + c) (y + c) = cmpI x y := by
  rw [← cmpI_sub, show x + c - (y + c) = x - y by omega, cmpI_sub]
set_option maxRecDepth 10000 in
set_option maxHeartbeats 2000000 in
theorem Order_fn (a b : Val) (ha : chk a = 0) (hb : chk b = 0) (oa : a.ok) (ob : b.ok) (la : a.t.length ≤ maxLen) (lb : b.t.length ≤ maxLen) : FnD Tryz.prog 188 [.agg (.es (eVal a)), .agg (.es (eVal b))] (.one (.e (eI (ordV a b)))) := by
  refine fn_intro (T := tab) tOk Tryz.func188 rfl (by kernel_rfl) (by simp [Tryz.ntmps188]) ?_
  intro X hX
  have hnt : X.nt = 43 := hX
  clear hX
  have ka := chk_kind ha
  have kb := chk_kind hb
  unfold ordV
  repeat' first | refine zzs ?_ | refine zzr hnt rfl ?_ ?_ | refine zzd hnt rfl ?_ ?_ | refine zzb ?_ | refine zzk ?_
  · exact zzt
  · exact zzt
  repeat' first | refine zzs ?_ | refine zzb ?_ | refine zzk ?_
  refine tr_cond rfl (fun hc => ?_) (fun hc => ?_)
  · simp only [zz1, zz2, zz3, zz4, zz5, zz6, zz7, zz8] at hc
    (try simp only [eVal0] at hc)
    (try simp only [zz1, zz2, zz3, zz4, zz5, zz6, zz7, zz8] at hc)
    rw [if_pos hc]
    have hf := sign_fn (a.k - b.k)
    have hw : IntKind.i64.wrap (((eVal a).getD (0 + 0) E.dflt).int - ((eVal b).getD (0 + 0) E.dflt).int) = a.k - b.k := wrap64_id (by show -9223372036854775808 ≤ a.k - b.k; omega) (by show a.k - b.k ≤ 9223372036854775807; omega)
    rw [cmpI_sub] at hf
    rw [← hw] at hf
    repeat' first | refine zzs ?_ | refine zzb ?_ | refine zzk ?_
    refine tr_region (zzx hnt rfl ?_ (call rfl rfl rfl rfl rfl rfl rfl hnt (hf) (zzx hnt rfl ?_ (Lex.nil _)))) ?_
    · exact zzt
    · exact zzt
    exact tr_ret ⟨.inr rfl, _, _, rfl, trivial, rfl⟩
  simp only [zz1, zz2, zz3, zz4, zz5, zz6, zz7, zz8] at hc
  (try simp only [eVal0] at hc)
  (try simp only [zz1, zz2, zz3, zz4, zz5, zz6, zz7, zz8] at hc)
  have hk : a.k = b.k := by omega
  rw [if_neg (not_not_intro hk)]
  repeat' first | refine zzs ?_ | refine zzr hnt rfl ?_ ?_ | refine zzd hnt rfl ?_ ?_ | refine zzb ?_ | refine zzk ?_
  · exact zzt
  · exact zzt
  repeat' first | refine zzs ?_ | refine zzb ?_ | refine zzk ?_
  refine tr_cond rfl (fun hc => ?_) (fun hc => ?_)
  · simp only [zz1, zz2, zz3, zz4, zz5, zz6, zz7, zz8] at hc
    (try simp only [eVal0] at hc)
    (try simp only [zz1, zz2, zz3, zz4, zz5, zz6, zz7, zz8] at hc)
    rw [if_pos hc]
    repeat' first | refine zzs ?_ | refine zzb ?_ | refine zzk ?_
    refine tr_draw (T := tab) tOk hnt mixedR (lexD (T := tab) rfl ?_ (callD rfl rfl rfl rfl rfl rfl rfl rfl (risen_fn a.b) (lexD (T := tab) rfl ?_ (callD rfl rfl rfl rfl rfl rfl rfl rfl (risen_fn b.b) (lexD (T := tab) rfl ?_ (callD rfl rfl rfl rfl rfl rfl rfl rfl (bitsOrder_fn (rsn a.b) (rsn b.b)) (lexD (T := tab) rfl ?_ (.nil _)))))))) (by decide +kernel) ?_
    · exact zzt
    · exact zzt
    · exact zzt
    · exact zzt
    exact tr_ret ⟨.inr rfl, _, _, rfl, trivial, rfl⟩
  simp only [zz1, zz2, zz3, zz4, zz5, zz6, zz7, zz8] at hc
  (try simp only [eVal0] at hc)
  (try simp only [zz1, zz2, zz3, zz4, zz5, zz6, zz7, zz8] at hc)
  rw [if_neg hc]
  repeat' first | refine zzs ?_ | refine zzr hnt rfl ?_ ?_ | refine zzd hnt rfl ?_ ?_ | refine zzb ?_ | refine zzk ?_
  · exact zzt
  repeat' first | refine zzs ?_ | refine zzb ?_ | refine zzk ?_
  refine tr_cond rfl (fun hc => ?_) (fun hc => ?_)
  · simp only [zz1, zz2, zz3, zz4, zz5, zz6, zz7, zz8] at hc
    (try simp only [eVal0] at hc)
    (try simp only [zz1, zz2, zz3, zz4, zz5, zz6, zz7, zz8] at hc)
    rw [if_pos hc]
    repeat' first | refine zzs ?_ | refine zzb ?_ | refine zzk ?_
    refine tr_region (zzx hnt rfl ?_ (call rfl rfl rfl rfl rfl rfl rfl hnt (bytesOrder_fn a.t b.t la lb) (zzx hnt rfl ?_ (Lex.nil _)))) ?_
    · exact zzt
    · exact zzt
    exact tr_ret ⟨.inr rfl, _, _, rfl, trivial, rfl⟩
  simp only [zz1, zz2, zz3, zz4, zz5, zz6, zz7, zz8] at hc
  (try simp only [eVal0] at hc)
  (try simp only [zz1, zz2, zz3, zz4, zz5, zz6, zz7, zz8] at hc)
  rw [if_neg hc]
  obtain ⟨a1, a2⟩ := shift_top oa.2.1 oa.2.2
  obtain ⟨b1, b2⟩ := shift_top ob.2.1 ob.2.2
  have hf : FnD Tryz.prog 242 [.one (.e (.v (.int .u64 (IntKind.u64.wrap (IntKind.u64.wrap a.i + 9223372036854775808))))), .one (.e (.v (.int .u64 (IntKind.u64.wrap (IntKind.u64.wrap b.i + 9223372036854775808)))))] (.one (.e (eI (cmpI a.i b.i)))) := by
    have h := bitsOrder_fn (BitVec.ofInt 64 (a.i + 9223372036854775808)) (BitVec.ofInt 64 (b.i + 9223372036854775808))
    rw [a2, b2, cmpI_add] at h
    rw [a1, b1]
    exact h
  repeat' first | refine zzs ?_ | refine zzb ?_ | refine zzk ?_
  refine tr_region (zzx hnt rfl ?_ (call rfl rfl rfl rfl rfl rfl rfl hnt (hf) (zzx hnt rfl ?_ (Lex.nil _)))) ?_
  · exact zzt
  · exact zzt
  exact tr_ret ⟨.inr rfl, _, _, rfl, trivial, rfl⟩
/-- what is asked of two values' order -/
def askF (a b : Val) (q : Int → Bool) : Int × Int := if chk a ≠ 0 then (0, chk a) else if chk b ≠ 0 then (0, chk b) else if a.k = 0 ∨ b.k = 0 then (1, 0) else if a.k ≠ b.k then (0, 2) else if q (ordV a b) = true then (2, 0) else (0, 0)
set_option maxRecDepth 10000 in
set_option maxHeartbeats 2000000 in
theorem asked_fn (a b : Val) (n : Nat) (q : Int → Bool) (hq : ∀ c, FnD Tryz.prog n [.one (.e (eI c))] (.v (.bool (q c)))) : FnG Tryz.prog 338 gK [.agg (.es (eVal a)), .agg (.es (eVal b)), .one (.clo n [])] (rII (askF a b q)) := by
  refine fn_introG (T := tab) tOk Tryz.func338 rfl (by kernel_rfl) (by simp [Tryz.ntmps338]) ?_
  intro X hX
  have hnt : X.nt = 33 := hX
  clear hX
  have h1 := both_fn a b
  have h2 := order_fn a b
  unfold askF
  generalize chk a = e at *
  generalize chk b = f at *
  repeat' first | refine zzs ?_ | refine zzr hnt rfl ?_ ?_ | refine zzd hnt rfl ?_ ?_ | refine zzb ?_ | refine zzk ?_
  · exact zzt
  repeat' first | refine zzs ?_ | refine zzb ?_ | refine zzk ?_
  refine tr_region (zzx hnt rfl ?_ (callV rfl rfl rfl rfl rfl rfl rfl hnt rfl (h1) (zzx hnt rfl ?_ (Lex.nil _)))) ?_
  · exact zzt
  · exact zzt
  repeat' first | refine zzs ?_ | refine zzr hnt rfl ?_ ?_ | refine zzd hnt rfl ?_ ?_ | refine zzb ?_ | refine zzk ?_
  · exact zzt
  by_cases he : e ≠ 0
  · simp only [if_pos he]
    repeat' first | refine zzs ?_ | refine zzb ?_ | refine zzk ?_
    refine tr_cond rfl (fun hc => ?_) (fun hc => ?_)
    · repeat' first | refine zzs ?_ | refine zzr hnt rfl ?_ ?_ | refine zzd hnt rfl ?_ ?_ | refine zzb ?_ | refine zzk ?_
      · exact zzt
      exact tr_ret ⟨.inr rfl, _, _, rfl, trivial, rfl⟩
    simp only [zz1, zz2, zz3, zz4, zz5, zz6, zz7, zz8] at hc
    exact absurd hc he
  simp only [if_neg he]
  by_cases hf : f ≠ 0
  · simp only [if_pos hf]
    repeat' first | refine zzs ?_ | refine zzb ?_ | refine zzk ?_
    refine tr_cond rfl (fun hc => ?_) (fun hc => ?_)
    · repeat' first | refine zzs ?_ | refine zzr hnt rfl ?_ ?_ | refine zzd hnt rfl ?_ ?_ | refine zzb ?_ | refine zzk ?_
      · exact zzt
      exact tr_ret ⟨.inr rfl, _, _, rfl, trivial, rfl⟩
    simp only [zz1, zz2, zz3, zz4, zz5, zz6, zz7, zz8] at hc
    exact absurd hc hf
  simp only [if_neg hf]
  have h2 := h2 (Classical.not_not.1 he) (Classical.not_not.1 hf)
  rw [Classical.not_not.1 hf]
  refine tr_cond rfl (fun h => nomatch (show false = true from h)) (fun _ => ?_)
  repeat' first | refine zzs ?_ | refine zzr hnt rfl ?_ ?_ | refine zzd hnt rfl ?_ ?_ | refine zzb ?_ | refine zzk ?_
  · exact zzt
  repeat' first | refine zzs ?_ | refine zzb ?_ | refine zzk ?_
  refine tr_cond rfl (fun hc => ?_) (fun hc => ?_)
  · simp only [zz1, zz2, zz3, zz4, zz5, zz6, zz7, zz8] at hc
    (try simp only [eVal0] at hc)
    (try simp only [zz1, zz2, zz3, zz4, zz5, zz6, zz7, zz8] at hc)
    rw [if_pos hc]
    repeat' first | refine zzs ?_ | refine zzr hnt rfl ?_ ?_ | refine zzd hnt rfl ?_ ?_ | refine zzb ?_ | refine zzk ?_
    · exact zzt
    exact tr_ret ⟨.inr rfl, _, _, rfl, trivial, rfl⟩
  simp only [zz1, zz2, zz3, zz4, zz5, zz6, zz7, zz8] at hc
  (try simp only [eVal0] at hc)
  (try simp only [zz1, zz2, zz3, zz4, zz5, zz6, zz7, zz8] at hc)
  rw [if_neg (by omega)]
  repeat' first | refine zzs ?_ | refine zzr hnt rfl ?_ ?_ | refine zzd hnt rfl ?_ ?_ | refine zzb ?_ | refine zzk ?_
  · exact zzt
  repeat' first | refine zzs ?_ | refine zzb ?_ | refine zzk ?_
  refine tr_cond rfl (fun hc => ?_) (fun hc => ?_)
  · simp only [zz1, zz2, zz3, zz4, zz5, zz6, zz7, zz8] at hc
    (try simp only [eVal0] at hc)
    (try simp only [zz1, zz2, zz3, zz4, zz5, zz6, zz7, zz8] at hc)
    rw [if_pos hc]
    repeat' first | refine zzs ?_ | refine zzr hnt rfl ?_ ?_ | refine zzd hnt rfl ?_ ?_ | refine zzb ?_ | refine zzk ?_
    · exact zzt
    exact tr_ret ⟨.inr rfl, _, _, rfl, trivial, rfl⟩
  simp only [zz1, zz2, zz3, zz4, zz5, zz6, zz7, zz8] at hc
  (try simp only [eVal0] at hc)
  (try simp only [zz1, zz2, zz3, zz4, zz5, zz6, zz7, zz8] at hc)
  rw [if_neg (not_not_intro hc)]
  repeat' first | refine zzs ?_ | refine zzb ?_ | refine zzk ?_
  refine tr_region (zzx hnt rfl ?_ (call rfl rfl rfl rfl rfl rfl rfl hnt (h2) (zzx hnt rfl ?_ (call rfl rfl rfl rfl rfl rfl rfl hnt (hq (ordV a b)) (zzx hnt rfl ?_ (Lex.nil _)))))) ?_
  · exact zzt
  · exact zzt
  · exact zzt
  repeat' first | refine zzs ?_ | refine zzb ?_ | refine zzk ?_
  refine tr_cond rfl (fun hc => ?_) (fun hc => ?_)
  · rw [if_pos hc]
    repeat' first | refine zzs ?_ | refine zzr hnt rfl ?_ ?_ | refine zzd hnt rfl ?_ ?_ | refine zzb ?_ | refine zzk ?_
    · exact zzt
    exact tr_ret ⟨.inr rfl, _, _, rfl, trivial, rfl⟩
  rw [if_neg (by rw [hc]; exact Bool.false_ne_true)]
  repeat' first | refine zzs ?_ | refine zzr hnt rfl ?_ ?_ | refine zzd hnt rfl ?_ ?_ | refine zzb ?_ | refine zzk ?_
  · exact zzt
  exact tr_ret ⟨.inr rfl, _, _, rfl, trivial, rfl⟩
set_option maxRecDepth 10000 in
set_option maxHeartbeats 2000000 in
theorem eq1_fn (c : Int) : FnD Tryz.prog 340 [.one (.e (eI c))] (.v (.bool (decide (c = 0)))) := by
  refine fn_intro (T := tab) tOk Tryz.func340 rfl (by kernel_rfl) (by simp [Tryz.ntmps340]) ?_
  intro X hX
  have hnt : X.nt = 5 := hX
  clear hX
  repeat' first | refine zzs ?_ | refine zzr hnt rfl ?_ ?_ | refine zzd hnt rfl ?_ ?_ | refine zzb ?_ | refine zzk ?_
  · exact zzt
  · exact zzt
  exact tr_ret ⟨.inr rfl, _, _, rfl, trivial, rfl⟩
set_option maxRecDepth 10000 in
set_option maxHeartbeats 2000000 in
theorem less1_fn (c : Int) : FnD Tryz.prog 339 [.one (.e (eI c))] (.v (.bool (decide (c < 0)))) := by
  refine fn_intro (T := tab) tOk Tryz.func339 rfl (by kernel_rfl) (by simp [Tryz.ntmps339]) ?_
  intro X hX
  have hnt : X.nt = 5 := hX
  clear hX
  repeat' first | refine zzs ?_ | refine zzr hnt rfl ?_ ?_ | refine zzd hnt rfl ?_ ?_ | refine zzb ?_ | refine zzk ?_
  · exact zzt
  · exact zzt
  exact tr_ret ⟨.inr rfl, _, _, rfl, trivial, rfl⟩
set_option maxRecDepth 10000 in
set_option maxHeartbeats 2000000 in
theorem Equal_fn (a b : Val) : FnG Tryz.prog 335 gK [.agg (.es (eVal a)), .agg (.es (eVal b))] (rII (askF a b fun c => decide (c = 0))) := by
  refine fn_introG (T := tab) tOk Tryz.func335 rfl (by kernel_rfl) (by simp [Tryz.ntmps335]) ?_
  intro X hX
  have hnt : X.nt = 11 := hX
  clear hX
  have h1 := asked_fn a b _ (fun c => decide (c = 0)) eq1_fn
  generalize askF a b _ = r at *
  repeat' first | refine zzs ?_ | refine zzr hnt rfl ?_ ?_ | refine zzd hnt rfl ?_ ?_ | refine zzb ?_ | refine zzk ?_
  · exact zzt
  repeat' first | refine zzs ?_ | refine zzb ?_ | refine zzk ?_
  refine tr_region (zzx hnt rfl ?_ (callV rfl rfl rfl rfl rfl rfl rfl hnt rfl (h1) (zzx hnt rfl ?_ (Lex.nil _)))) ?_
  · exact zzt
  · exact zzt
  exact tr_ret ⟨.inr rfl, _, _, rfl, trivial, rfl⟩
set_option maxRecDepth 10000 in
set_option maxHeartbeats 2000000 in
theorem Less_fn (a b : Val) : FnG Tryz.prog 334 gK [.agg (.es (eVal a)), .agg (.es (eVal b))] (rII (askF a b fun c => decide (c < 0))) := by
  refine fn_introG (T := tab) tOk Tryz.func334 rfl (by kernel_rfl) (by simp [Tryz.ntmps334]) ?_
  intro X hX
  have hnt : X.nt = 11 := hX
  clear hX
  have h1 := asked_fn a b _ (fun c => decide (c < 0)) less1_fn
  generalize askF a b _ = r at *
  repeat' first | refine zzs ?_ | refine zzr hnt rfl ?_ ?_ | refine zzd hnt rfl ?_ ?_ | refine zzb ?_ | refine zzk ?_
  · exact zzt
  repeat' first | refine zzs ?_ | refine zzb ?_ | refine zzk ?_
  refine tr_region (zzx hnt rfl ?_ (callV rfl rfl rfl rfl rfl rfl rfl hnt rfl (h1) (zzx hnt rfl ?_ (Lex.nil _)))) ?_
  · exact zzt
  · exact zzt
  exact tr_ret ⟨.inr rfl, _, _, rfl, trivial, rfl⟩
end Go.Proofs.YthnadkafegmacaaGreatDoor
