/- Numbers as texts. No condition. -/
import Derived.Test.YthnadkafegmacaaDoorTYxB
import Derived.Test.YthnadkafegmacaaDoorAbQ
namespace Go.Proofs.YthnadkafegmacaaDoor
open Go Go.RowKit Go.Proofs.YthnadkafegmacaaDoor.Ab
set_option linter.unusedSimpArgs false
set_option linter.unusedVariables false

def dbE : List E := [0, 1, 56, 2, 57, 49, 28, 3, 61, 58, 42, 50, 38, 29, 17, 4, 62, 47, 59, 36, 45, 43, 51, 22, 53, 39, 33, 30, 24, 18, 12, 5, 63, 55, 48, 27, 60, 41, 37, 16, 46, 35, 44, 21, 52, 32, 23, 11, 54, 26, 40, 15, 34, 20, 31, 10, 25, 14, 19, 9, 13, 8, 7, 6].map eU8
theorem dig_piece0 : ∀ n, n < 10 → (⟨#[48, 49, 50, 51, 52, 53, 54, 55, 56, 57]⟩ : ByteArray).extract n (n + 1) = strB [UInt8.ofNat (48 + n)] := by decide
theorem dig_piece {n : Nat} (h : n < 10) : (⟨#[48, 49, 50, 51, 52, 53, 54, 55, 56, 57]⟩ : ByteArray).extract n (n + 1) = strB (Lib.decDigits n) := by
  rw [Lib.decDigits_one h]
  exact dig_piece0 n h
theorem wrap1 {n : Nat} (h : n < 1000) : (IntKind.i64.wrap ((n : Int) + 1)).toNat = n + 1 := by
  rw [wrap64_id (by omega) (by omega)]
  omega
theorem dec_len : ∀ (k n : Nat), 1 ≤ k → n < 10 ^ k → (Lib.decDigits n).length ≤ k
  | 0, _, h, _ => absurd h (by decide)
  | k + 1, n, _, h => by
    by_cases hn : n < 10
    · rw [Lib.decDigits_one hn]
      exact Nat.succ_pos k
    · rw [Lib.decDigits, dif_neg hn, List.length_append]
      have hk : 1 ≤ k := by
        cases k with
        | zero => exact absurd h (by omega)
        | succ k => omega
      have := dec_len k (n / 10) hk (by rw [Nat.pow_succ] at h; omega)
      exact Nat.add_le_add_right this 1
theorem strB_app (a b : Byt) : strB (a ++ b) = strB a ++ strB b := by
  apply ByteArray.ext
  rw [ByteArray.data_append]
  simp [strB]
set_option maxRecDepth 10000 in
set_option maxHeartbeats 2000000 in
theorem decimal_one (n : Nat) (h : n < 9223372036854775808) (ih : ¬ n < 10 → FnD Tryd.prog 94 [.one (.e (eI ((n / 10 : Nat) : Int)))] (.one (.e (eT (Lib.decDigits (n / 10)))))) : FnD Tryd.prog 94 [.one (.e (eI (n : Int)))] (.one (.e (eT (Lib.decDigits n)))) := by
  refine fn_intro (T := tab) tOk Tryd.func94 rfl (by kernel_rfl) (by simp [Tryd.ntmps94]) ?_
  intro X hX
  have hnt : X.nt = 19 := hX
  clear hX
  repeat' first | refine zzs ?_ | refine zzr hnt rfl ?_ ?_ | refine zzd hnt rfl ?_ ?_ | refine zzb ?_ | refine zzk ?_
  · exact zzt
  · exact zzt
  repeat' first | refine zzs ?_ | refine zzb ?_ | refine zzk ?_
  refine tr_cond rfl (fun hc => ?_) (fun hc => ?_)
  · simp only [zz1, zz2, zz3, zz4, zz5, zz6, zz7, zz8] at hc
    have hn : n < 10 := by omega
    have e0 : ((⟨#[48, 49, 50, 51, 52, 53, 54, 55, 56, 57]⟩ : ByteArray).size : Int) = 10 := rfl
    repeat' first | refine zzs ?_ | refine zzb ?_ | refine zzk ?_
    first | refine zzr hnt rfl ?_ ?_ | refine zzd hnt rfl ?_ ?_
    · rw [wrap64_id (n := (n : Int) + 1) (by omega) (by omega), e0]
      exact zza
    rw [Int.toNat_natCast, wrap1 (by omega), dig_piece hn]
    exact tr_ret ⟨.inr rfl, _, _, rfl, zzp, rfl⟩
  simp only [zz1, zz2, zz3, zz4, zz5, zz6, zz7, zz8] at hc
  have hn : ¬ n < 10 := by omega
  have ih := ih hn
  have hq : IntKind.i64.wrap ((n : Int).tdiv 10) = ((n / 10 : Nat) : Int) := by
    rw [show (n : Int).tdiv 10 = ((n / 10 : Nat) : Int) from (Int.ofNat_tdiv n 10).symm]
    exact wrap64_id (by omega) (by omega)
  have hm : (n : Int).tmod 10 = ((n % 10 : Nat) : Int) := (Int.ofNat_tmod n 10).symm
  have hm10 : n % 10 < 10 := Nat.mod_lt _ (by decide)
  have e0 : ((⟨#[48, 49, 50, 51, 52, 53, 54, 55, 56, 57]⟩ : ByteArray).size : Int) = 10 := rfl
  have hl := dec_len 19 (n / 10) (by omega) (by omega)
  have hs1 : (strB (Lib.decDigits (n / 10))).size = (Lib.decDigits (n / 10)).length := List.size_toArray
  have hs2 : (strB [UInt8.ofNat (48 + n % 10)]).size = 1 := rfl
  rw [← hq] at ih
  repeat' first | refine zzs ?_ | refine zzb ?_ | refine zzk ?_
  refine tr_draw (T := tab) tOk hnt mixedR (lexD (T := tab) rfl ?_ (callD rfl rfl rfl rfl rfl rfl rfl rfl (ih) (lexD (T := tab) rfl ?_ (.nil _)))) (by first | decide +kernel | kernel_rfl) ?_
  · exact zzt
  · rw [hm, Int.toNat_natCast, wrap1 (by omega), dig_piece0 _ hm10, wrap64_id (n := ((n % 10 : Nat) : Int) + 1) (by omega) (by omega), e0, hs1, hs2]
    simp only [maxLen]
    exact zza
  rw [hm, Int.toNat_natCast, wrap1 (by omega), dig_piece0 _ hm10, ← strB_app, show Lib.decDigits (n / 10) ++ [UInt8.ofNat (48 + n % 10)] = Lib.decDigits n by rw [Lib.decDigits.eq_def n, dif_neg hn]]
  exact tr_ret ⟨.inr rfl, _, _, rfl, zzp, rfl⟩
theorem decimal_fn : ∀ (m n : Nat), n ≤ m → n < 9223372036854775808 → FnD Tryd.prog 94 [.one (.e (eI (n : Int)))] (.one (.e (eT (Lib.decDigits n))))
  | 0, n, h, hn => decimal_one n hn (fun h0 => absurd (by omega) h0)
  | m + 1, n, h, hn => decimal_one n hn (fun h0 => decimal_fn m (n / 10) (by omega) (by omega))
set_option maxRecDepth 10000 in
set_option maxHeartbeats 2000000 in
theorem tz64_fn : FnG Tryd.prog 230 ([(12, dbE)]) [.one (.e (.v (.int .u64 16)))] (.one (.e (eI 4))) := by
  refine fn_introG (T := tab) tOk Tryd.func230 rfl (by kernel_rfl) (by simp [Tryd.ntmps230]) ?_
  intro X hX
  have hnt : X.nt = 14 := hX
  clear hX
  repeat' first | refine zzs ?_ | refine zzr hnt rfl ?_ ?_ | refine zzd hnt rfl ?_ ?_ | refine zzb ?_ | refine zzk ?_
  · exact zzt
  · exact zzt
  repeat' first | refine zzs ?_ | refine zzb ?_ | refine zzk ?_
  refine tr_cond rfl (fun hc => ?_) (fun hc => ?_)
  · exact absurd hc (by decide)
  clear hc
  have e1 : (BitVec.ofInt IntKind.u64.bits 16 &&& BitVec.ofInt IntKind.u64.bits (IntKind.u64.wrap (0 - 16))).toNat = 16 := by decide +kernel
  have e2 : (IntKind.u64.wrap (IntKind.u64.wrap ((16 : Nat) : Int) * 285870213051353865)).fdiv (2 ^ min (Int.toNat 58) IntKind.u64.bits) = 15 := by decide +kernel
  repeat' first | refine zzs ?_ | refine zzb ?_ | refine zzk ?_
  first | refine zzr hnt rfl ?_ ?_ | refine zzd hnt rfl ?_ ?_
  · rw [e1, e2]
    dsimp only [AllP]
    repeat' first | apply And.intro | exact trivial | exact rfl | decide +kernel
  rw [e1, e2]
  exact tr_ret ⟨.inr rfl, _, _, rfl, zzp, by kernel_rfl⟩
set_option maxRecDepth 10000 in
set_option maxHeartbeats 2000000 in
theorem tz_fn : FnG Tryd.prog 217 ([(12, dbE)]) [.one (.e (.v (.int .u64 16)))] (.one (.e (eI 4))) := by
  refine fn_introG (T := tab) tOk Tryd.func217 rfl (by kernel_rfl) (by simp [Tryd.ntmps217]) ?_
  intro X hX
  have hnt : X.nt = 8 := hX
  clear hX
  repeat' first | refine zzs ?_ | refine zzr hnt rfl ?_ ?_ | refine zzd hnt rfl ?_ ?_ | refine zzb ?_ | refine zzk ?_
  · exact zzt
  repeat' first | refine zzs ?_ | refine zzb ?_ | refine zzk ?_
  refine tr_cond rfl (fun hc => ?_) (fun hc => ?_)
  · exact absurd hc (by decide)
  clear hc
  have h := tz64_fn
  repeat' first | refine zzs ?_ | refine zzb ?_ | refine zzk ?_
  refine tr_region (zzx hnt rfl ?_ (callV rfl rfl rfl rfl rfl rfl rfl hnt rfl (h) (zzx hnt rfl ?_ (Lex.nil _)))) ?_
  · exact zzt
  · exact zzt
  exact tr_ret ⟨.inr rfl, _, _, rfl, zzp, rfl⟩
set_option maxRecDepth 10000 in
set_option maxHeartbeats 2000000 in
theorem pow2_fn : FnD Tryd.prog 216 [.one (.e (eI 16))] (.v (.bool true)) := by
  refine fn_intro (T := tab) tOk Tryd.func216 rfl (by kernel_rfl) (by simp [Tryd.ntmps216]) ?_
  intro X hX
  have hnt : X.nt = 8 := hX
  clear hX
  repeat' first | refine zzs ?_ | refine zzb ?_ | refine zzk ?_
  first | refine zzr hnt rfl ?_ ?_ | refine zzd hnt rfl ?_ ?_
  · exact zzt
  repeat' first | refine zzs ?_ | refine zzb ?_ | refine zzk ?_
  first | refine zzr hnt rfl ?_ ?_ | refine zzd hnt rfl ?_ ?_
  · dsimp only [AllP]
    repeat' first | apply And.intro | exact trivial | exact rfl | decide +kernel
  exact tr_ret ⟨.inr rfl, _, _, rfl, zzp, by kernel_rfl⟩
end Go.Proofs.YthnadkafegmacaaDoor
