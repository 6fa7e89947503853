/- The text of a token: the document's. No condition. -/
import Derived.Test.YthnadkafegmacaaDoorTYxF
namespace Go.Proofs.YthnadkafegmacaaDoor
open Go Go.RowKit Go.Proofs.YthnadkafegmacaaDoor.Ab
set_option linter.unusedSimpArgs false
set_option linter.unusedVariables false

theorem take_one {l : Byt} {i : Nat} (h : i < l.length) : (l.take (i + 1)).drop i = [l.getD i 0] ∧ l.take (i + 1) = l.take i ++ [l.getD i 0] := by
  have e : l.take (i + 1) = l.take i ++ [l.getD i 0] := by
    rw [List.take_add_one, List.getD_eq_getElem?_getD, List.getElem?_eq_getElem h]
    rfl
  refine ⟨?_, e⟩
  rw [e, List.drop_left' (by rw [List.length_take]; omega)]
theorem dbl_one (c : UInt8) : dbl [c] = if c = 39 then [39, 39] else [c] := by
  rw [dbl]
  split <;> rfl
theorem strB_at (l : Byt) (i : Nat) : (strB l).data.toList.getD ((i : Int)).toNat 0 = l.getD i 0 := rfl
theorem dg16b : ∀ k, k < 16 → (⟨#[48, 49, 50, 51, 52, 53, 54, 55, 56, 57, 97, 98, 99, 100, 101, 102]⟩ : ByteArray).extract k (k + 1) = strB [hd k] := by decide
theorem ofI_wrap (v : BitVec 64) : BitVec.ofInt 64 (IntKind.i64.wrap (v.toNat : Int)) = v := by
  apply BitVec.eq_of_toNat_eq
  rw [BitVec.toNat_ofInt]
  unfold IntKind.wrap
  simp [IntKind.bits, IntKind.signed]
  have := v.isLt
  omega
theorem andI15 (v : BitVec 64) : IntKind.i64.wrap ((BitVec.ofInt IntKind.i64.bits (IntKind.i64.wrap (v.toNat : Int)) &&& BitVec.ofInt IntKind.i64.bits 15).toNat : Int) = ((v.toNat % 16 : Nat) : Int) := by
  show IntKind.i64.wrap ((BitVec.ofInt 64 (IntKind.i64.wrap (v.toNat : Int)) &&& BitVec.ofInt 64 15).toNat : Int) = ((v.toNat % 16 : Nat) : Int)
  rw [ofI_wrap]
  have e : (v &&& BitVec.ofInt 64 15).toNat = v.toNat % 16 := by
    show (v &&& 15#64).toNat = _
    rw [BitVec.toNat_and, show (15#64).toNat = 2 ^ 4 - 1 from rfl, Nat.and_two_pow_sub_one_eq_mod]
  rw [e]
  exact wrap64_id (by omega) (by omega)
set_option maxRecDepth 10000 in
set_option maxHeartbeats 2000000 in
theorem tokenText_fn (t : Tok) (h : tkOk t) : FnD Tryd.prog 42 [.agg (.es (eTok t))] (.one (.e (eT (txF t)))) := by
  refine fn_intro (T := tab) tOk Tryd.func42 rfl (by kernel_rfl) (by simp [Tryd.ntmps42]) ?_
  intro X hX
  have hnt : X.nt = 64 := hX
  clear hX
  unfold txF
  repeat' first | refine zzs ?_ | refine zzr hnt rfl ?_ ?_ | refine zzd hnt rfl ?_ ?_ | refine zzb ?_ | refine zzk ?_
  · exact zzt
  · exact zzt
  · exact zzt
  repeat' first | refine zzs ?_ | refine zzb ?_ | refine zzk ?_
  refine tr_cond rfl (fun hc => ?_) (fun hc => ?_)
  · simp only [zz1, zz2, zz3, zz4, zz5, zz6, zz7, zz8] at hc
    have hc : t.k = 3 := hc
    rw [if_pos hc]
    obtain ⟨i0, i1⟩ := h.n hc
    obtain ⟨n, hn⟩ : ∃ n : Nat, t.i = n := ⟨t.i.toNat, by omega⟩
    rw [hn, Int.toNat_natCast]
    have h1 := decimal_fn n n (Nat.le_refl _) (by omega)
    rw [← hn] at h1
    repeat' first | refine zzs ?_ | refine zzb ?_ | refine zzk ?_
    refine tr_region (zzx hnt rfl ?_ (call rfl rfl rfl rfl rfl rfl rfl hnt (h1) (zzx hnt rfl ?_ (Lex.nil _)))) ?_
    · exact zzt
    · exact zzt
    exact tr_ret ⟨.inr rfl, _, _, rfl, zzp, rfl⟩
  simp only [zz1, zz2, zz3, zz4, zz5, zz6, zz7, zz8] at hc
  have hc : ¬ t.k = 3 := hc
  rw [if_neg hc]
  clear hc
  repeat' first | refine zzs ?_ | refine zzr hnt rfl ?_ ?_ | refine zzd hnt rfl ?_ ?_ | refine zzb ?_ | refine zzk ?_
  · exact zzt
  repeat' first | refine zzs ?_ | refine zzb ?_ | refine zzk ?_
  refine tr_cond rfl (fun hc => ?_) (fun hc => ?_)
  · simp only [zz1, zz2, zz3, zz4, zz5, zz6, zz7, zz8] at hc
    have hc : t.k = 4 := hc
    rw [if_pos hc]
    have hl := h.q hc
    repeat' first | refine zzs ?_ | refine zzr hnt rfl ?_ ?_ | refine zzd hnt rfl ?_ ?_ | refine zzb ?_ | refine zzk ?_
    · exact zzt
    · exact zzt
    repeat' first | refine zzs ?_ | refine zzb ?_ | refine zzk ?_
    refine tr_loop (σ := Nat) (fun i => St.of [(1, .one (.ptr 1 0 0)), (3, .one (.e (eT (dbl (t.t.take i))))), (4, .one (.e (eI (i : Int))))] [(1, ⟨0, .box (.es (eTok t)), 0⟩)]) (fun i => i ≤ t.t.length) (fun i => t.t.length - i) (0) (le_of (ad := []) ⟨zzl, zzl, zzl, trivial⟩ (memOk_box rfl rfl rfl trivial)) (Nat.zero_le _) ?_
    rintro i hil
    repeat' first | refine zzs ?_ | refine zzr hnt rfl ?_ ?_ | refine zzd hnt rfl ?_ ?_ | refine zzb ?_ | refine zzk ?_
    · exact zzt
    repeat' first | refine zzs ?_ | refine zzb ?_ | refine zzk ?_
    refine tr_cond rfl (fun hc => ?_) (fun hc => ?_)
    · have hlt : i < t.t.length := by
        have hc := of_decide_eq_true hc
        have hc : (i : Int) < ((strB t.t).size : Int) := hc
        rw [strB_len] at hc
        omega
      obtain ⟨k1, k2⟩ := take_one hlt
      have hdl := dbl_len (t.t.take i)
      rw [List.length_take] at hdl
      clear hc
      repeat' first | refine zzs ?_ | refine zzb ?_ | refine zzk ?_
      first | refine zzr hnt rfl ?_ ?_ | refine zzd hnt rfl ?_ ?_
      · rw [eTok1, Int.toNat_natCast, wrap1 (by omega), strB_extract, k1, wrap64_id (n := (i : Int) + 1) (by omega) (by omega)]
        simp only [strB_len, maxLen, List.length_cons, List.length_nil]
        exact zza
      rw [eTok1, Int.toNat_natCast, wrap1 (by omega), strB_extract, k1, ← strB_app]
      repeat' first | refine zzs ?_ | refine zzb ?_ | refine zzk ?_
      first | refine zzr hnt rfl ?_ ?_ | refine zzd hnt rfl ?_ ?_
      · rw [eTok1, strB_len]
        exact zza
      rw [eTok1, strB_at]
      have hd2 := dbl_app (t.t.take i) [t.t.getD i 0]
      rw [← k2, dbl_one] at hd2
      generalize t.t.getD i 0 = c at *
      repeat' first | refine zzs ?_ | refine zzb ?_ | refine zzk ?_
      refine tr_cond rfl (fun hc => ?_) (fun hc => ?_)
      · have hc : c = 39 := by
          have hc : decide ((c.toNat : Int) = 39) = true := hc
          have hc := of_decide_eq_true hc
          exact UInt8.toNat_inj.1 (by show c.toNat = 39; omega)
        subst hc
        rw [if_pos rfl] at hd2
        repeat' first | refine zzs ?_ | refine zzb ?_ | refine zzk ?_
        first | refine zzr hnt rfl ?_ ?_ | refine zzd hnt rfl ?_ ?_
        · simp only [strB_len, maxLen, List.length_append, List.length_cons, List.length_nil, show (⟨#[39]⟩ : ByteArray).size = 1 from rfl]
          exact zza
        have he : strB (dbl (t.t.take i) ++ [39]) ++ (⟨#[39]⟩ : ByteArray) = strB (dbl (t.t.take (i + 1))) := by
          rw [hd2]
          show strB _ ++ strB [39] = _
          rw [← strB_app, List.append_assoc]
          rfl
        rw [he]
        repeat' first | refine zzs ?_ | refine zzr hnt rfl ?_ ?_ | refine zzd hnt rfl ?_ ?_ | refine zzb ?_ | refine zzk ?_
        · exact zzt
        refine ⟨i + 1, hlt, by omega, le_of (ad := []) ⟨zzl, zzl, zzl, trivial⟩ (memOk_box rfl rfl rfl trivial)⟩
      have hc : ¬ c = 39 := by
        have hc : decide ((c.toNat : Int) = 39) = false := hc
        have hc := of_decide_eq_false hc
        intro e
        subst e
        exact hc rfl
      rw [if_neg hc] at hd2
      rw [← hd2]
      repeat' first | refine zzs ?_ | refine zzr hnt rfl ?_ ?_ | refine zzd hnt rfl ?_ ?_ | refine zzb ?_ | refine zzk ?_
      · exact zzt
      refine ⟨i + 1, hlt, by omega, le_of (ad := []) ⟨zzl, zzl, zzl, trivial⟩ (memOk_box rfl rfl rfl trivial)⟩
    have hge : ¬ i < t.t.length := by
      have hc := of_decide_eq_false hc
      have hc : ¬ (i : Int) < ((strB t.t).size : Int) := hc
      rw [strB_len] at hc
      omega
    have hi : i = t.t.length := by omega
    have hdl := dbl_len t.t
    rw [hi, List.take_length]
    refine tr_exit ?_
    repeat' first | refine zzs ?_ | refine zzb ?_ | refine zzk ?_
    first | refine zzr hnt rfl ?_ ?_ | refine zzd hnt rfl ?_ ?_
    · simp only [ByteArray.size_append, strB_len, maxLen, show (⟨#[39]⟩ : ByteArray).size = 1 from rfl]
      exact zza
    have he : (⟨#[39]⟩ : ByteArray) ++ strB (dbl t.t) ++ ⟨#[39]⟩ = strB (39 :: (dbl t.t ++ [39])) := by
      show strB [39] ++ strB (dbl t.t) ++ strB [39] = strB ([39] ++ (dbl t.t ++ [39]))
      rw [strB_app, strB_app, ByteArray.append_assoc]
    rw [he]
    exact tr_ret ⟨.inr rfl, _, _, rfl, zzp, rfl⟩
  simp only [zz1, zz2, zz3, zz4, zz5, zz6, zz7, zz8] at hc
  have hc : ¬ t.k = 4 := hc
  rw [if_neg hc]
  clear hc
  repeat' first | refine zzs ?_ | refine zzr hnt rfl ?_ ?_ | refine zzd hnt rfl ?_ ?_ | refine zzb ?_ | refine zzk ?_
  · exact zzt
  repeat' first | refine zzs ?_ | refine zzb ?_ | refine zzk ?_
  refine tr_cond rfl (fun hc => ?_) (fun hc => ?_)
  · simp only [zz1, zz2, zz3, zz4, zz5, zz6, zz7, zz8] at hc
    have hc : t.k = 5 := hc
    rw [if_pos hc]
    repeat' first | refine zzs ?_ | refine zzr hnt rfl ?_ ?_ | refine zzd hnt rfl ?_ ?_ | refine zzb ?_ | refine zzk ?_
    · exact zzt
    · exact zzt
    repeat' first | refine zzs ?_ | refine zzb ?_ | refine zzk ?_
    refine tr_loop (σ := Nat) (fun m => St.of [(1, .one (.ptr 1 0 0)), (5, .one (.e (eT (pad m (t.b.toNat / 16 ^ (16 - m)))))), (6, .one (.e (eI (60 - 4 * (m : Int)))))] [(1, ⟨0, .box (.es (eTok t)), 0⟩)]) (fun m => m ≤ 16) (fun m => 16 - m) (0) (le_of (ad := []) ⟨zzl, zzl, zzl, trivial⟩ (memOk_box rfl rfl rfl trivial)) (Nat.zero_le _) ?_
    rintro m hm
    repeat' first | refine zzs ?_ | refine zzr hnt rfl ?_ ?_ | refine zzd hnt rfl ?_ ?_ | refine zzb ?_ | refine zzk ?_
    · exact zzt
    repeat' first | refine zzs ?_ | refine zzb ?_ | refine zzk ?_
    refine tr_cond rfl (fun hc => ?_) (fun hc => ?_)
    · simp only [zz1, zz2, zz3, zz4, zz5, zz6, zz7, zz8] at hc
      have hm15 : m ≤ 15 := by omega
      have hsh : ((eTok t).getD (0 + 3) E.dflt).int.fdiv (2 ^ min (60 - 4 * (m : Int)).toNat IntKind.u64.bits) = ((t.b >>> (4 * (15 - m))).toNat : Int) := by
        rw [eTok3, show min (60 - 4 * (m : Int)).toNat IntKind.u64.bits = 4 * (15 - m) by show min (60 - 4 * (m : Int)).toNat 64 = _; omega]
        exact q_shr t.b _
      have hvn : (t.b >>> (4 * (15 - m))).toNat = t.b.toNat / 16 ^ (15 - m) := by
        rw [BitVec.toNat_ushiftRight, Nat.shiftRight_eq_div_pow, Nat.pow_mul]
      have hpd : pad (m + 1) (t.b.toNat / 16 ^ (15 - m)) = pad m (t.b.toNat / 16 ^ (16 - m)) ++ [hd (t.b.toNat / 16 ^ (15 - m) % 16)] := by
        rw [pad, Nat.div_div_eq_div_mul, ← Nat.pow_succ, show (15 - m).succ = 16 - m by omega]
      rw [← hvn] at hpd
      generalize hw : t.b >>> (4 * (15 - m)) = v at *
      have hd16 : v.toNat % 16 < 16 := Nat.mod_lt _ (by decide)
      have hpl := pad_len m (t.b.toNat / 16 ^ (16 - m))
      repeat' first | refine zzs ?_ | refine zzb ?_ | refine zzk ?_
      first | refine zzr hnt rfl ?_ ?_ | refine zzd hnt rfl ?_ ?_
      · rw [hsh]
        exact zza
      rw [hsh, andI15]
      repeat' first | refine zzs ?_ | refine zzb ?_ | refine zzk ?_
      first | refine zzr hnt rfl ?_ ?_ | refine zzd hnt rfl ?_ ?_
      · rw [Int.toNat_natCast, wrap1 (by omega), dg16b _ hd16, wrap64_id (n := ((v.toNat % 16 : Nat) : Int) + 1) (by omega) (by omega), show ((⟨#[48, 49, 50, 51, 52, 53, 54, 55, 56, 57, 97, 98, 99, 100, 101, 102]⟩ : ByteArray).size : Int) = 16 from rfl]
        simp only [strB_len, maxLen, List.length_cons, List.length_nil, hpl]
        exact zza
      rw [Int.toNat_natCast, wrap1 (by omega), dg16b _ hd16, ← strB_app, ← hpd, hvn, show 15 - m = 16 - (m + 1) by omega]
      have hi4 : IntKind.i64.wrap (60 - 4 * (m : Int) - 4) = 60 - 4 * ((m + 1 : Nat) : Int) := by
        rw [wrap64_id (by omega) (by omega)]
        omega
      repeat' first | refine zzs ?_ | refine zzb ?_ | refine zzk ?_
      first | refine zzr hnt rfl ?_ ?_ | refine zzd hnt rfl ?_ ?_
      · exact zzt
      rw [hi4]
      refine ⟨m + 1, (by omega), by omega, le_of (ad := []) ⟨zzl, zzl, zzl, trivial⟩ (memOk_box rfl rfl rfl trivial)⟩
    simp only [zz1, zz2, zz3, zz4, zz5, zz6, zz7, zz8] at hc
    have hm16 : m = 16 := by omega
    subst hm16
    rw [show t.b.toNat / 16 ^ (16 - 16) = t.b.toNat from Nat.div_one _]
    have hpl := pad_len 16 t.b.toNat
    refine tr_exit ?_
    repeat' first | refine zzs ?_ | refine zzb ?_ | refine zzk ?_
    first | refine zzr hnt rfl ?_ ?_ | refine zzd hnt rfl ?_ ?_
    · simp only [strB_len, maxLen, hpl, show (⟨#[35]⟩ : ByteArray).size = 1 from rfl]
      exact zza
    have he : (⟨#[35]⟩ : ByteArray) ++ strB (pad 16 t.b.toNat) = strB (35 :: pad 16 t.b.toNat) := (strB_app [35] (pad 16 t.b.toNat)).symm
    rw [he]
    exact tr_ret ⟨.inr rfl, _, _, rfl, zzp, rfl⟩
  simp only [zz1, zz2, zz3, zz4, zz5, zz6, zz7, zz8] at hc
  have hc : ¬ t.k = 5 := hc
  rw [if_neg hc]
  repeat' first | refine zzs ?_ | refine zzr hnt rfl ?_ ?_ | refine zzd hnt rfl ?_ ?_ | refine zzb ?_ | refine zzk ?_
  · exact zzt
  exact tr_ret ⟨.inr rfl, _, _, rfl, zzp, rfl⟩
end Go.Proofs.YthnadkafegmacaaDoor
