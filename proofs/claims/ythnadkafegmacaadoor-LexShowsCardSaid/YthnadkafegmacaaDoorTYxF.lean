/- The text of a token: the program's and the document's. No condition. -/
import Derived.Test.YthnadkafegmacaaDoorTYxE
namespace Go.Proofs.YthnadkafegmacaaDoor
open Go Go.RowKit Go.Proofs.YthnadkafegmacaaDoor.Ab
set_option linter.unusedSimpArgs false
set_option linter.unusedVariables false

set_option maxRecDepth 10000 in
set_option maxHeartbeats 2000000 in
theorem fmtU_fn (u : BitVec 64) : FnG Tryd.prog 152 ([(12, dbE)]) [.one (.e (eQ u)), .one (.e (eI 16))] (.one (.e (eT (hx u.toNat)))) := by
  refine fn_introG (T := tab) tOk Tryd.func152 rfl (by kernel_rfl) (by simp [Tryd.ntmps152]) ?_
  intro X hX
  have hnt : X.nt = 32 := hX
  clear hX
  have h1 := fmtBits_fn u
  repeat' first | refine zzs ?_ | refine zzr hnt rfl ?_ ?_ | refine zzd hnt rfl ?_ ?_ | refine zzb ?_ | refine zzk ?_
  · exact zzt
  · exact zzt
  repeat' first | refine zzs ?_ | refine zzb ?_ | refine zzk ?_
  refine tr_cond rfl (fun hc => ?_) (fun hc => ?_)
  · exact absurd hc (by decide)
  clear hc
  repeat' first | refine zzs ?_ | refine zzb ?_ | refine zzk ?_
  refine tr_region (zzx hnt rfl ?_ (callV rfl rfl rfl rfl rfl rfl rfl hnt rfl (h1) (zzx hnt rfl ?_ (Lex.nil _)))) ?_
  · exact zzt
  · exact zzt
  repeat' first | refine zzs ?_ | refine zzr hnt rfl ?_ ?_ | refine zzd hnt rfl ?_ ?_ | refine zzb ?_ | refine zzk ?_
  · exact zzt
  exact tr_ret ⟨.inr rfl, _, _, rfl, zzp, rfl⟩
set_option maxRecDepth 10000 in
set_option maxHeartbeats 2000000 in
theorem formatUint_fn (u : BitVec 64) : FnG Tryd.prog 88 ([(12, dbE)]) [.one (.e (eQ u)), .one (.e (eI 16))] (.one (.e (eT (hx u.toNat)))) := by
  refine fn_introG (T := tab) tOk Tryd.func88 rfl (by kernel_rfl) (by simp [Tryd.ntmps88]) ?_
  intro X hX
  have hnt : X.nt = 8 := hX
  clear hX
  have h1 := fmtU_fn u
  repeat' first | refine zzs ?_ | refine zzb ?_ | refine zzk ?_
  first | refine zzr hnt rfl ?_ ?_ | refine zzd hnt rfl ?_ ?_
  · exact zzt
  repeat' first | refine zzs ?_ | refine zzb ?_ | refine zzk ?_
  refine tr_region (zzx hnt rfl ?_ (callV rfl rfl rfl rfl rfl rfl rfl hnt rfl (h1) (zzx hnt rfl ?_ (Lex.nil _)))) ?_
  · exact zzt
  · exact zzt
  exact tr_ret ⟨.inr rfl, _, _, rfl, zzp, rfl⟩
/-- a token as its check leaves it -/
structure tkOk (t : Tok) : Prop where
  n : t.k = 3 → 0 ≤ t.i ∧ t.i < 9223372036854775808
  q : t.k = 4 → t.t.length ≤ 40
theorem strB_len (l : Byt) : (strB l).size = l.length := List.size_toArray
theorem show_fn (t : Tok) (h : tkOk t) : FnK Tryd.prog KT 40 [(12, dbE)] [.agg (.es (eTok t))] (.one (.e (eT (txF t)))) := by
  refine fn_introK (T := tab) tOk Tryd.func40 rfl (by kernel_rfl) (by simp [Tryd.ntmps40]) KT_st ?_
  intro X hX hK
  have hnt : X.nt = 32 := hX
  clear hX
  unfold txF
  repeat' first | refine zzs ?_ | refine zzr hnt rfl ?_ ?_ | refine zzd hnt rfl ?_ ?_ | refine zzb ?_ | refine zzk ?_
  · exact zzt
  repeat' first | refine zzs ?_ | refine zzr hnt rfl ?_ ?_ | refine zzd hnt rfl ?_ ?_ | refine zzb ?_ | refine zzk ?_
  · exact zzt
  · exact zzt
  repeat' first | refine zzs ?_ | refine zzb ?_ | refine zzk ?_
  refine tr_cond rfl (fun hc => ?_) (fun hc => ?_)
  · simp only [zz1, zz2, zz3, zz4, zz5, zz6, zz7, zz8] at hc
    have hc : t.k = 3 := hc
    rw [if_pos hc]
    obtain ⟨i0, i1⟩ := h.n hc
    obtain ⟨n, hn⟩ : ∃ n : Nat, t.i = n := ⟨t.i.toNat, by omega⟩
    rw [hn, Int.toNat_natCast]
    have h1 := Itoa_fn n (by omega) []
    rw [← hn] at h1
    repeat' first | refine zzs ?_ | refine zzb ?_ | refine zzk ?_
    refine tr_region (zzx hnt rfl ?_ (callK rfl rfl rfl rfl rfl rfl rfl hnt rfl hK (h1) (zzx hnt rfl ?_ (Lex.nil _)))) ?_
    · exact zzt
    · exact zzt
    exact tr_ret ⟨.inr rfl, _, _, rfl, zzp, rfl⟩
  simp only [zz1, zz2, zz3, zz4, zz5, zz6, zz7, zz8] at hc
  have hc : ¬ t.k = 3 := hc
  rw [if_neg hc]
  clear hc
  repeat' first | refine zzs ?_ | refine zzr hnt rfl ?_ ?_ | refine zzd hnt rfl ?_ ?_ | refine zzb ?_ | refine zzk ?_
  · exact zzt
  repeat' first | refine zzs ?_ | refine zzb ?_ | refine zzk ?_
  refine tr_cond rfl (fun hc => ?_) (fun hc => ?_)
  · simp only [zz1, zz2, zz3, zz4, zz5, zz6, zz7, zz8] at hc
    have hc : t.k = 4 := hc
    rw [if_pos hc]
    have hl := h.q hc
    have hdl := dbl_len t.t
    have h1 := ReplaceAll_fn t.t (by omega) []
    rw [repAll] at h1
    repeat' first | refine zzs ?_ | refine zzb ?_ | refine zzk ?_
    refine tr_region (zzx hnt rfl ?_ (callK rfl rfl rfl rfl rfl rfl rfl hnt rfl hK (h1) (zzx hnt rfl ?_ (Lex.nil _)))) ?_
    · exact zzt
    · rw [ByteArray.size_append, strB_len, show (⟨#[39]⟩ : ByteArray).size = 1 from rfl]
      simp only [maxLen]
      exact zza
    have he : (⟨#[39]⟩ : ByteArray) ++ strB (dbl t.t) ++ ⟨#[39]⟩ = strB (39 :: (dbl t.t ++ [39])) := by
      show strB [39] ++ strB (dbl t.t) ++ strB [39] = strB ([39] ++ (dbl t.t ++ [39]))
      rw [strB_app, strB_app, ByteArray.append_assoc]
    rw [he]
    exact tr_ret ⟨.inr rfl, _, _, rfl, zzp, rfl⟩
  simp only [zz1, zz2, zz3, zz4, zz5, zz6, zz7, zz8] at hc
  have hc : ¬ t.k = 4 := hc
  rw [if_neg hc]
  clear hc
  repeat' first | refine zzs ?_ | refine zzr hnt rfl ?_ ?_ | refine zzd hnt rfl ?_ ?_ | refine zzb ?_ | refine zzk ?_
  · exact zzt
  repeat' first | refine zzs ?_ | refine zzb ?_ | refine zzk ?_
  refine tr_cond rfl (fun hc => ?_) (fun hc => ?_)
  · simp only [zz1, zz2, zz3, zz4, zz5, zz6, zz7, zz8] at hc
    have hc : t.k = 5 := hc
    rw [if_pos hc]
    have h1 := formatUint_fn t.b
    have hl := hx_len t.b
    repeat' first | refine zzs ?_ | refine zzb ?_ | refine zzk ?_
    refine tr_region (zzx hnt rfl ?_ (callV rfl rfl rfl rfl rfl rfl rfl hnt rfl (h1) (zzx hnt rfl ?_ (Lex.nil _)))) ?_
    · exact zzt
    · exact zzt
    have h2 := Repeat_fn (16 - (hx t.b.toNat).length) (by omega)
    have hz : IntKind.i64.wrap (16 - ((strB (hx t.b.toNat)).size : Int)) = ((16 - (hx t.b.toNat).length : Nat) : Int) := by
      rw [strB_len, wrap64_id (by omega) (by omega)]
      omega
    rw [← hz] at h2
    repeat' first | refine zzs ?_ | refine zzb ?_ | refine zzk ?_
    refine tr_region (zzx hnt rfl ?_ (call rfl rfl rfl rfl rfl rfl rfl hnt (h2) (zzx hnt rfl ?_ (Lex.nil _)))) ?_
    · exact zzt
    · rw [ByteArray.size_append, strB_len, strB_len, Lib.repeatL_length, show (⟨#[35]⟩ : ByteArray).size = 1 from rfl, show ([48] : List UInt8).length = 1 from rfl]
      simp only [maxLen]
      exact zza
    have he : (⟨#[35]⟩ : ByteArray) ++ strB (Lib.repeatL [48] (16 - (hx t.b.toNat).length)) ++ strB (hx t.b.toNat) = strB (35 :: pad 16 t.b.toNat) := by
      rw [← hx_pad]
      show strB [35] ++ strB _ ++ strB _ = strB ([35] ++ (_ ++ _))
      rw [strB_app, strB_app, ByteArray.append_assoc]
    rw [he]
    exact tr_ret ⟨.inr rfl, _, _, rfl, zzp, rfl⟩
  simp only [zz1, zz2, zz3, zz4, zz5, zz6, zz7, zz8] at hc
  have hc : ¬ t.k = 5 := hc
  rw [if_neg hc]
  repeat' first | refine zzs ?_ | refine zzr hnt rfl ?_ ?_ | refine zzd hnt rfl ?_ ?_ | refine zzb ?_ | refine zzk ?_
  · exact zzt
  exact tr_ret ⟨.inr rfl, _, _, rfl, zzp, rfl⟩
end Go.Proofs.YthnadkafegmacaaDoor
