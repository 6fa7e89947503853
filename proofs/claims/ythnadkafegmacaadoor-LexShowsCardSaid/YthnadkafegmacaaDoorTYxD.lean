/- Words of 64 bits as texts of hexadecimal digits. No condition. -/
import Derived.Test.YthnadkafegmacaaDoorTYxC
namespace Go.Proofs.YthnadkafegmacaaDoor
open Go Go.RowKit Go.Proofs.YthnadkafegmacaaDoor.Ab
set_option linter.unusedSimpArgs false
set_option linter.unusedVariables false

def hd (n : Nat) : UInt8 := ([48, 49, 50, 51, 52, 53, 54, 55, 56, 57, 97, 98, 99, 100, 101, 102] : List UInt8).getD n 0
def hx (u : Nat) : Byt := if h : u < 16 then [hd u] else hx (u / 16) ++ [hd (u % 16)]
termination_by u
decreasing_by omega
/-- 65 bytes that end in d -/
def bx (d : Byt) : List E := (List.replicate (65 - d.length) 0 ++ d).map eB
theorem bx_len {d : Byt} (h : d.length ≤ 65) : (bx d).length = 65 := by
  unfold bx
  rw [List.length_map, List.length_append, List.length_replicate]
  omega
theorem bx_eq {d : Byt} (h : d.length ≤ 64) : bx d = (List.replicate (64 - d.length) 0).map eB ++ (eB 0 :: d.map eB) := by
  unfold bx
  rw [show 65 - d.length = (64 - d.length) + 1 by omega, List.replicate_succ', List.append_assoc, List.map_append]
  rfl
theorem bx_set {d : Byt} (h : d.length ≤ 64) (c : UInt8) : List.take (64 - d.length) (bx d) ++ [eB c] ++ List.drop (64 - d.length + 1) (bx d) = bx (c :: d) := by
  have hl : ((List.replicate (64 - d.length) (0 : UInt8)).map eB).length = 64 - d.length := by rw [List.length_map, List.length_replicate]
  rw [bx_eq h, List.take_left' hl, ← List.drop_drop, List.drop_left' hl]
  unfold bx
  rw [List.length_cons, show 65 - (d.length + 1) = 64 - d.length by omega, List.map_append]
  simp
theorem chunks1 (l : Byt) : chunksE 1 l.length (l.map eB) = eCells l := by
  apply List.ext_getElem
  · simp [chunksE, eCells]
  · intro i h1 h2
    have hi : i < l.length := by simpa [chunksE] using h1
    simp only [chunksE, eCells, List.getElem_map, List.getElem_range, Nat.mul_one]
    rw [List.drop_eq_getElem_cons (by simpa using hi)]
    simp
theorem bx_tail {d : Byt} {c : UInt8} (h : d.length ≤ 64) : chunksE 1 (((65 : Nat) : Int) - ((64 - d.length : Nat) : Int)).toNat (List.drop (0 + ((64 - d.length : Nat) : Int).toNat * 1) (bx (c :: d))) = eCells (c :: d) := by
  rw [← chunks1 (c :: d), Int.toNat_natCast, Nat.mul_one, Nat.zero_add]
  have hl : ((List.replicate (64 - d.length) (0 : UInt8)).map eB).length = 64 - d.length := by rw [List.length_map, List.length_replicate]
  have hb : bx (c :: d) = (List.replicate (64 - d.length) 0).map eB ++ (c :: d).map eB := by
    unfold bx
    rw [List.length_cons, show 65 - (d.length + 1) = 64 - d.length by omega, List.map_append]
  rw [hb, List.drop_left' hl, List.length_cons]
  congr 1
  omega
theorem and15 (v : BitVec 64) : IntKind.u64.wrap ((BitVec.ofInt IntKind.u64.bits (v.toNat : Int) &&& BitVec.ofInt IntKind.u64.bits 15).toNat : Int) = ((v.toNat % 16 : Nat) : Int) := by
  have h := q_and v 15#64
  rw [show (((15#64).toNat : Nat) : Int) = 15 from rfl] at h
  rw [h, BitVec.toNat_and, show (15#64).toNat = 2 ^ 4 - 1 from rfl, Nat.and_two_pow_sub_one_eq_mod]
theorem dg16 : ∀ k, k < 16 → ((⟨#[48, 49, 50, 51, 52, 53, 54, 55, 56, 57, 97, 98, 99, 100, 101, 102, 103, 104, 105, 106, 107, 108, 109, 110, 111, 112, 113, 114, 115, 116, 117, 118, 119, 120, 121, 122]⟩ : ByteArray).data.toList.getD k 0) = hd k := by decide
theorem wrapm {d : Nat} (h : d ≤ 64) : IntKind.i64.wrap (((65 - d : Nat) : Int) - 1) = ((64 - d : Nat) : Int) := by
  rw [wrap64_id (by omega) (by omega)]
  omega
theorem hx_big {u : Nat} (h : ¬ u < 16) : hx u = hx (u / 16) ++ [hd (u % 16)] := by rw [hx, dif_neg h]
theorem hx_one {u : Nat} (h : u < 16) : hx u = [hd u] := by rw [hx, dif_pos h]
theorem shr4 (v : BitVec 64) : (v >>> 4).toNat = v.toNat / 16 := by rw [BitVec.toNat_ushiftRight, Nat.shiftRight_eq_div_pow]
theorem hx_step {v : Nat} {d : Nat} (h16 : 16 ≤ v) (hd' : d ≤ 15) (hv : v < 16 ^ (16 - d)) : d + 1 ≤ 15 ∧ v / 16 < 16 ^ (16 - (d + 1)) := by
  have hd2 : d + 1 ≤ 15 := by
    apply Classical.byContradiction
    intro hn
    rw [show d = 15 by omega] at hv
    omega
  refine ⟨hd2, ?_⟩
  rw [show 16 - d = (16 - (d + 1)) + 1 by omega, Nat.pow_succ] at hv
  omega
set_option maxRecDepth 10000 in
set_option maxHeartbeats 2000000 in
theorem fmtBits_fn (u : BitVec 64) : FnG Tryd.prog 191 ([(12, dbE)]) [.one (.e (.sl [])), .one (.e (eQ u)), .one (.e (eI 16)), .v (.bool false), .v (.bool false)] (.tup [(false, .es [.sl []]), (false, .es [eT (hx u.toNat)])]) := by
  refine fn_introG (T := tab) tOk Tryd.func191 rfl (by kernel_rfl) (by simp [Tryd.ntmps191]) ?_
  intro X hX
  have hnt : X.nt = 102 := hX
  clear hX
  repeat' first | refine zzs ?_ | refine zzr hnt rfl ?_ ?_ | refine zzd hnt rfl ?_ ?_ | refine zzb ?_ | refine zzk ?_
  · exact zzt
  · exact zzt
  repeat' first | refine zzs ?_ | refine zzb ?_ | refine zzk ?_
  refine tr_cond rfl (fun hc => ?_) (fun hc => ?_)
  · exact absurd hc (by decide)
  clear hc
  repeat' first | refine zzs ?_ | refine zzr hnt rfl ?_ ?_ | refine zzd hnt rfl ?_ ?_ | refine zzb ?_ | refine zzk ?_
  · exact zzt
  · exact zzt
  · exact zzt
  repeat' first | refine zzs ?_ | refine zzb ?_ | refine zzk ?_
  refine tr_cond rfl (fun hc => ?_) (fun hc => ?_)
  · exact absurd hc (by decide)
  clear hc
  have h1 := pow2_fn
  repeat' first | refine zzs ?_ | refine zzb ?_ | refine zzk ?_
  refine tr_region (zzx hnt rfl ?_ (call rfl rfl rfl rfl rfl rfl rfl hnt (h1) (zzx hnt rfl ?_ (Lex.nil _)))) ?_
  · exact zzt
  · exact zzt
  repeat' first | refine zzs ?_ | refine zzb ?_ | refine zzk ?_
  refine tr_cond rfl (fun hc => ?_) (fun hc => ?_)
  rotate_left
  · exact absurd hc (by decide)
  clear hc
  have h2 := tz_fn
  repeat' first | refine zzs ?_ | refine zzb ?_ | refine zzk ?_
  refine tr_region (zzx hnt rfl ?_ (callV rfl rfl rfl rfl rfl rfl rfl hnt rfl (h2) (zzx hnt rfl ?_ (Lex.nil _)))) ?_
  · exact zzt
  · exact zzt
  repeat' first | refine zzs ?_ | refine zzb ?_ | refine zzk ?_
  first | refine zzr hnt rfl ?_ ?_ | refine zzd hnt rfl ?_ ?_
  · exact zzt
  repeat' first | refine zzs ?_ | refine zzb ?_ | refine zzk ?_
  first | refine zzr hnt rfl ?_ ?_ | refine zzd hnt rfl ?_ ?_
  · exact zzt
  repeat' first | refine zzs ?_ | refine zzb ?_ | refine zzk ?_
  refine tr_loop (σ := BitVec 64 × Byt) (fun y => St.of [(0, .one (.e (.sl []))), (1, .one (.e (eQ y.1))), (3, .v (.bool false)), (4, .v (.bool false)), (10, .one .nil), (11, .one (.e (.v (.string ⟨#[]⟩)))), (12, .one (.ptr 12 0 0)), (13, .one (.e (eI ((65 - y.2.length : Nat) : Int)))), (14, .one (.e (.v (.int .u64 4)))), (15, .one (.e (.v (.int .u64 16)))), (16, .one (.e (.v (.int .u64 15)))), ((1000000 + 12), .one (.eptr dbE))] [(12, ⟨0, .box (.es (bx y.2)), 0⟩)]) (fun y => hx u.toNat = hx y.1.toNat ++ y.2 ∧ y.2.length ≤ 15 ∧ y.1.toNat < 16 ^ (16 - y.2.length)) (fun y => y.1.toNat) ((u, [])) (le_of (ad := []) ⟨zzl, zzl, zzl, zzl, zzl, zzl, zzl, zzl, zzl, zzl, zzl, zzl, trivial⟩ (memOk_box rfl rfl (by repeat' first | exact trivial | exact rfl | apply And.intro) trivial)) ⟨(List.append_nil _).symm, Nat.zero_le _, u.isLt⟩ ?_
  rintro ⟨v, d⟩ ⟨hu, hdl, hv⟩
  dsimp only at hu hdl hv ⊢
  repeat' first | refine zzs ?_ | refine zzr hnt rfl ?_ ?_ | refine zzd hnt rfl ?_ ?_ | refine zzb ?_ | refine zzk ?_
  · exact zzt
  repeat' first | refine zzs ?_ | refine zzb ?_ | refine zzk ?_
  refine tr_cond rfl (fun hc => ?_) (fun hc => ?_)
  · simp only [zz1, zz2, zz3, zz4, zz5, zz6, zz7, zz8] at hc
    have h16 : 16 ≤ v.toNat := by omega
    repeat' first | refine zzs ?_ | refine zzb ?_ | refine zzk ?_
    first | refine zzr hnt rfl ?_ ?_ | refine zzd hnt rfl ?_ ?_
    · exact zzt
    have hl := bx_len (d := d) (by omega)
    have hb65 : (Cs.es (bx d)).len = 65 := hl
    have e36 : ((⟨#[48, 49, 50, 51, 52, 53, 54, 55, 56, 57, 97, 98, 99, 100, 101, 102, 103, 104, 105, 106, 107, 108, 109, 110, 111, 112, 113, 114, 115, 116, 117, 118, 119, 120, 121, 122]⟩ : ByteArray).size : Int) = 36 := rfl
    have hm16 : v.toNat % 16 < 16 := Nat.mod_lt _ (by decide)
    repeat' first | refine zzs ?_ | refine zzb ?_ | refine zzk ?_
    first | refine zzr hnt rfl ?_ ?_ | refine zzd hnt rfl ?_ ?_
    · rw [and15, wrapm (by omega), e36]
      exact zza
    rw [and15, wrapm (by omega), Int.toNat_natCast, dg16 _ hm16]
    have hst := hx_step h16 hdl hv
    have hk : 64 - d.length = 65 - (hd (v.toNat % 16) :: d).length := by rw [List.length_cons]; omega
    have hset : List.take (0 + ((64 - d.length : Nat) : Int).toNat * 1) (bx d) ++ [eB (hd (v.toNat % 16))] ++ List.drop (0 + ((64 - d.length : Nat) : Int).toNat * 1 + 1) (bx d) = bx (hd (v.toNat % 16) :: d) := by
      rw [Int.toNat_natCast, Nat.mul_one, Nat.zero_add]
      exact bx_set (by omega) _
    rw [hk] at hset ⊢
    have hsh : ((v.toNat : Int)).fdiv (2 ^ min (Int.toNat 4) IntKind.u64.bits) = ((v >>> 4).toNat : Int) := q_shr v 4
    repeat' first | refine zzs ?_ | refine zzr hnt rfl ?_ ?_ | refine zzd hnt rfl ?_ ?_ | refine zzb ?_ | refine zzk ?_
    · exact zzt
    rw [hsh]
    rw [hx_big (u := v.toNat) (by omega)] at hu
    refine ⟨(v >>> 4, hd (v.toNat % 16) :: d), ⟨by dsimp only; rw [shr4, hu, List.append_assoc]; rfl, hst.1, by dsimp only; rw [shr4]; exact hst.2⟩, by dsimp only; rw [shr4]; omega, le_of (ad := []) ⟨zzl, zzl, zzl, zzl, zzl, zzl, zzl, zzl, zzl, zzl, zzl, zzl, trivial⟩ (memOk_box rfl rfl hset trivial)⟩
  simp only [zz1, zz2, zz3, zz4, zz5, zz6, zz7, zz8] at hc
  have h16 : v.toNat < 16 := by omega
  have hl := bx_len (d := d) (by omega)
  have hb65 : (Cs.es (bx d)).len = 65 := hl
  have e36 : ((⟨#[48, 49, 50, 51, 52, 53, 54, 55, 56, 57, 97, 98, 99, 100, 101, 102, 103, 104, 105, 106, 107, 108, 109, 110, 111, 112, 113, 114, 115, 116, 117, 118, 119, 120, 121, 122]⟩ : ByteArray).size : Int) = 36 := rfl
  refine tr_exit ?_
  repeat' first | refine zzs ?_ | refine zzb ?_ | refine zzk ?_
  first | refine zzr hnt rfl ?_ ?_ | refine zzd hnt rfl ?_ ?_
  · exact zzt
  repeat' first | refine zzs ?_ | refine zzb ?_ | refine zzk ?_
  first | refine zzr hnt rfl ?_ ?_ | refine zzd hnt rfl ?_ ?_
  · rw [wrapm (by omega), e36]
    exact zza
  rw [wrapm (by omega), Int.toNat_natCast, dg16 _ h16]
  have hset : List.take (0 + ((64 - d.length : Nat) : Int).toNat * 1) (bx d) ++ [eB (hd v.toNat)] ++ List.drop (0 + ((64 - d.length : Nat) : Int).toNat * 1 + 1) (bx d) = bx (hd v.toNat :: d) := by
    rw [Int.toNat_natCast, Nat.mul_one, Nat.zero_add]
    exact bx_set (by omega) _
  refine tr_le (s' := St.of [(0, .one (.e (.sl []))), (3, .v (.bool false)), (4, .v (.bool false)), (10, .one .nil), (12, .one (.ptr 12 0 0)), (13, .one (.e (eI ((64 - d.length : Nat) : Int))))] [(12, ⟨0, .box (.es (bx (hd v.toNat :: d))), 0⟩)]) (le_of (ad := []) ⟨zzl, zzl, zzl, zzl, zzl, zzl, trivial⟩ (memOk_box rfl rfl hset trivial)) ?_
  repeat' first | refine zzs ?_ | refine zzr hnt rfl ?_ ?_ | refine zzd hnt rfl ?_ ?_ | refine zzb ?_ | refine zzk ?_
  · exact zzt
  repeat' first | refine zzs ?_ | refine zzb ?_ | refine zzk ?_
  refine tr_cond rfl (fun hc => ?_) (fun hc => ?_)
  · exact absurd hc (by decide)
  clear hc
  repeat' first | refine zzs ?_ | refine zzr hnt rfl ?_ ?_ | refine zzd hnt rfl ?_ ?_ | refine zzb ?_ | refine zzk ?_
  · exact zzt
  repeat' first | refine zzs ?_ | refine zzb ?_ | refine zzk ?_
  refine tr_cond rfl (fun hc => ?_) (fun hc => ?_)
  · exact absurd hc (by decide)
  clear hc
  have ht := bx_tail (c := hd v.toNat) (d := d) (by omega)
  have hl2 := bx_len (d := hd v.toNat :: d) (by rw [List.length_cons]; omega)
  have hb2 : (Cs.es (bx (hd v.toNat :: d))).len = 65 := hl2
  have hby := eCells_isByte (hd v.toNat :: d)
  rw [← ht] at hby
  repeat' first | refine zzs ?_ | refine zzb ?_ | refine zzk ?_
  first | refine zzr hnt rfl ?_ ?_ | refine zzd hnt rfl ?_ ?_
  · exact zza
  have hst : bytesOf (chunksE 1 (((65 : Nat) : Int) - ((64 - d.length : Nat) : Int)).toNat (List.drop (0 + ((64 - d.length : Nat) : Int).toNat * 1) (bx (hd v.toNat :: d)))) = strB (hx u.toNat) := by
    rw [ht, strB_of, hu, hx_one h16]
    rfl
  refine tr_ret ⟨.inr rfl, _, _, rfl, zzp, ?_⟩
  exact congrArg (fun z : ByteArray => D.tup [(false, Cs.es [E.sl []]), (false, Cs.es [E.v (.string z)])]) hst
end Go.Proofs.YthnadkafegmacaaDoor
