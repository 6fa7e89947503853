/- table.Insert: its parts. No condition. -/
import Derived.Test.YthnadkafegmacaaGreatDoorTTab2
namespace Go.Proofs.YthnadkafegmacaaGreatDoor
open Go Go.RowKit Go.Proofs.YthnadkafegmacaaGreatDoor.Ab
set_option linter.unusedSimpArgs false
set_option linter.unusedVariables false

theorem rows4 (l : List Val) : ∀ cs ∈ l.map eVal, cs.length = 4 := by
  intro cs h
  obtain ⟨q, _, rfl⟩ := List.mem_map.1 h
  rfl
set_option maxRecDepth 10000 in
set_option maxHeartbeats 2000000 in
theorem row_fn (r : List Val) (hb : r.length ≤ 1000) : FnD Tryz.prog 111 [.one (.e (eRow r))] (.one (.e (eRow r))) := by
  refine FnD.len ⟨_, _, Tryz.func111, rfl, by kernel_rfl⟩ 0 rfl fun hl0 => ?_
  refine fn_intro (T := tab) tOk Tryz.func111 rfl (by kernel_rfl) (by simp [Tryz.ntmps111]) ?_
  intro X hX
  have hnt : X.nt = 6 := hX
  clear hX
  have h4 := rows4 r
  have hml := rowLen r
  have b1 : 0 + (r.map eVal).length ≤ maxLen := by unfold maxLen; omega
  have b2 : (0 + (r.map eVal).length) * 40 ≤ 140737488355328 := by omega
  repeat' first | refine zzs ?_ | refine zzr hnt rfl ?_ ?_ | refine zzd hnt rfl ?_ ?_ | refine zzb ?_ | refine zzk ?_
  · exact zzt
  · exact zza
  repeat' first | refine zzs ?_ | refine zzb ?_ | refine zzk ?_
  exact tr_ret ⟨.inr rfl, _, _, rfl, trivial, rfl⟩
set_option maxRecDepth 10000 in
set_option maxHeartbeats 2000000 in
theorem sameRow_fn (r : List Val) : FnD Tryz.prog 24 [.one (.e (eRow r)), .one (.e (eRow r))] (.v (.bool true)) := by
  refine FnD.len ⟨_, _, Tryz.func24, rfl, by kernel_rfl⟩ 0 rfl fun hl0 => ?_
  refine fn_intro (T := tab) tOk Tryz.func24 rfl (by kernel_rfl) (by simp [Tryz.ntmps24]) ?_
  intro X hX
  have hnt : X.nt = 26 := hX
  clear hX
  have hml := rowLen r
  unfold maxLen at hl0
  repeat' first | refine zzs ?_ | refine zzr hnt rfl ?_ ?_ | refine zzd hnt rfl ?_ ?_ | refine zzb ?_ | refine zzk ?_
  · exact zzt
  · exact zzt
  repeat' first | refine zzs ?_ | refine zzb ?_ | refine zzk ?_
  refine tr_cond rfl (fun hc => ?_) (fun hc => ?_)
  · simp only [zz1, zz2, zz3, zz4, zz5, zz6, zz7, zz8] at hc
    exact (hc trivial).elim
  simp only [zz1, zz2, zz3, zz4, zz5, zz6, zz7, zz8] at hc
  repeat' first | refine zzs ?_ | refine zzr hnt rfl ?_ ?_ | refine zzd hnt rfl ?_ ?_ | refine zzb ?_ | refine zzk ?_
  · exact zzt
  repeat' first | refine zzs ?_ | refine zzb ?_ | refine zzk ?_
  refine tr_loop (σ := Nat) (fun i => St.of [(0, .one (.e (eRow r))), (1, .one (.e (eRow r))), (12, .one (.e (eI ((r.map eVal).length : Int)))), (13, .one (.e (eI (i : Int))))] []) (fun i => i ≤ r.length) (fun i => r.length - i) (0) (le_of (ad := []) ⟨zzl, zzl, zzl, zzl, trivial⟩ trivial) (Nat.zero_le _) ?_
  rintro i il
  repeat' first | refine zzs ?_ | refine zzr hnt rfl ?_ ?_ | refine zzd hnt rfl ?_ ?_ | refine zzb ?_ | refine zzk ?_
  · exact zzt
  repeat' first | refine zzs ?_ | refine zzb ?_ | refine zzk ?_
  refine tr_cond rfl (fun hc => ?_) (fun hc => ?_)
  · simp only [zz1, zz2, zz3, zz4, zz5, zz6, zz7, zz8] at hc
    (try simp only [hml] at hc)
    (try simp only [zz1, zz2, zz3, zz4, zz5, zz6, zz7, zz8] at hc)
    have hlt : i < r.length := by omega
    have hg := rowGet r i hlt
    have e1 := eqV1 (r.getD i ⟨0, 0, 0, []⟩) (r.getD i ⟨0, 0, 0, []⟩)
    repeat' first | refine zzs ?_ | refine zzb ?_ | refine zzk ?_
    first | refine zzr hnt rfl ?_ ?_ | refine zzd hnt rfl ?_ ?_
    · exact zza
    repeat' first | refine zzs ?_ | refine zzb ?_ | refine zzk ?_
    first | refine zzr hnt rfl ?_ ?_ | refine zzd hnt rfl ?_ ?_
    · rw [Int.toNat_natCast, hg, hml]
      exact zza
    rw [Int.toNat_natCast, hg]
    generalize r.getD i ⟨0, 0, 0, []⟩ = v at *
    repeat' first | refine zzs ?_ | refine zzb ?_ | refine zzk ?_
    refine tr_cond rfl (fun hc => ?_) (fun hc => ?_)
    · have hc : (!(eqD tab 9 28 (.agg (.es (List.take 4 (List.drop 0 (eVal v))))) (.agg (.es (List.take 4 (List.drop 0 (eVal v)))))).2) = true := hc
      rw [eqV2, decide_eq_true ⟨rfl, rfl, rfl, rfl⟩] at hc
      exact absurd hc (by decide)
    repeat' first | refine zzs ?_ | refine zzr hnt rfl ?_ ?_ | refine zzd hnt rfl ?_ ?_ | refine zzb ?_ | refine zzk ?_
    · exact zzt
    refine ⟨i + 1, (by omega), by omega, le_of (ad := []) ⟨zzl, zzl, zzl, zzl, trivial⟩ trivial⟩
  simp only [zz1, zz2, zz3, zz4, zz5, zz6, zz7, zz8] at hc
  (try simp only [hml] at hc)
  (try simp only [zz1, zz2, zz3, zz4, zz5, zz6, zz7, zz8] at hc)
  refine tr_exit ?_
  repeat' first | refine zzs ?_ | refine zzr hnt rfl ?_ ?_ | refine zzd hnt rfl ?_ ?_ | refine zzb ?_ | refine zzk ?_
  · exact zzt
  exact tr_ret ⟨.inr rfl, _, _, rfl, trivial, rfl⟩
theorem eqC1 (v w : Colm) : (eqD tab 9 106 (.agg (.es (List.take 3 (List.drop 0 (eCol v))))) (.agg (.es (List.take 3 (List.drop 0 (eCol w)))))).1 :=
  ⟨⟨Nat.le_of_ble_eq_true rfl, rfl⟩, ⟨Nat.le_of_ble_eq_true rfl, rfl⟩, trivial, ⟨Nat.le_of_ble_eq_true rfl, rfl⟩, ⟨Nat.le_of_ble_eq_true rfl, rfl⟩, rfl, ⟨Nat.le_of_ble_eq_true rfl, rfl⟩, ⟨Nat.le_of_ble_eq_true rfl, rfl⟩, trivial, trivial⟩
theorem eqC2 (v : Colm) : (eqD tab 9 106 (.agg (.es (List.take 3 (List.drop 0 (eCol v))))) (.agg (.es (List.take 3 (List.drop 0 (eCol v)))))).2 = true := by
  show (strEq (strB v.n) (strB v.n) && (v.k == v.k && (v.u == v.u && true))) = true
  rw [strEq_B, decide_eq_true rfl]
  simp
set_option maxRecDepth 10000 in
set_option maxHeartbeats 2000000 in
theorem sameColumns_fn (r : List Colm) : FnD Tryz.prog 23 [.one (.e (eCols r)), .one (.e (eCols r))] (.v (.bool true)) := by
  refine FnD.len ⟨_, _, Tryz.func23, rfl, by kernel_rfl⟩ 0 rfl fun hl0 => ?_
  refine fn_intro (T := tab) tOk Tryz.func23 rfl (by kernel_rfl) (by simp [Tryz.ntmps23]) ?_
  intro X hX
  have hnt : X.nt = 26 := hX
  clear hX
  have hml := colsLen r
  unfold maxLen at hl0
  repeat' first | refine zzs ?_ | refine zzr hnt rfl ?_ ?_ | refine zzd hnt rfl ?_ ?_ | refine zzb ?_ | refine zzk ?_
  · exact zzt
  · exact zzt
  repeat' first | refine zzs ?_ | refine zzb ?_ | refine zzk ?_
  refine tr_cond rfl (fun hc => ?_) (fun hc => ?_)
  · simp only [zz1, zz2, zz3, zz4, zz5, zz6, zz7, zz8] at hc
    exact (hc trivial).elim
  simp only [zz1, zz2, zz3, zz4, zz5, zz6, zz7, zz8] at hc
  repeat' first | refine zzs ?_ | refine zzr hnt rfl ?_ ?_ | refine zzd hnt rfl ?_ ?_ | refine zzb ?_ | refine zzk ?_
  · exact zzt
  repeat' first | refine zzs ?_ | refine zzb ?_ | refine zzk ?_
  refine tr_loop (σ := Nat) (fun i => St.of [(0, .one (.e (eCols r))), (1, .one (.e (eCols r))), (12, .one (.e (eI ((r.map eCol).length : Int)))), (13, .one (.e (eI (i : Int))))] []) (fun i => i ≤ r.length) (fun i => r.length - i) (0) (le_of (ad := []) ⟨zzl, zzl, zzl, zzl, trivial⟩ trivial) (Nat.zero_le _) ?_
  rintro i il
  repeat' first | refine zzs ?_ | refine zzr hnt rfl ?_ ?_ | refine zzd hnt rfl ?_ ?_ | refine zzb ?_ | refine zzk ?_
  · exact zzt
  repeat' first | refine zzs ?_ | refine zzb ?_ | refine zzk ?_
  refine tr_cond rfl (fun hc => ?_) (fun hc => ?_)
  · simp only [zz1, zz2, zz3, zz4, zz5, zz6, zz7, zz8] at hc
    (try simp only [hml] at hc)
    (try simp only [zz1, zz2, zz3, zz4, zz5, zz6, zz7, zz8] at hc)
    have hlt : i < r.length := by omega
    have hg := colsGet r i hlt
    have e1 := eqC1 (r.getD i col0) (r.getD i col0)
    repeat' first | refine zzs ?_ | refine zzb ?_ | refine zzk ?_
    first | refine zzr hnt rfl ?_ ?_ | refine zzd hnt rfl ?_ ?_
    · exact zza
    repeat' first | refine zzs ?_ | refine zzb ?_ | refine zzk ?_
    first | refine zzr hnt rfl ?_ ?_ | refine zzd hnt rfl ?_ ?_
    · rw [Int.toNat_natCast, hg, hml]
      exact zza
    rw [Int.toNat_natCast, hg]
    generalize r.getD i col0 = v at *
    repeat' first | refine zzs ?_ | refine zzb ?_ | refine zzk ?_
    refine tr_cond rfl (fun hc => ?_) (fun hc => ?_)
    · have hc : (!(eqD tab 9 106 (.agg (.es (List.take 3 (List.drop 0 (eCol v))))) (.agg (.es (List.take 3 (List.drop 0 (eCol v)))))).2) = true := hc
      rw [eqC2] at hc
      exact absurd hc (by decide)
    repeat' first | refine zzs ?_ | refine zzr hnt rfl ?_ ?_ | refine zzd hnt rfl ?_ ?_ | refine zzb ?_ | refine zzk ?_
    · exact zzt
    refine ⟨i + 1, (by omega), by omega, le_of (ad := []) ⟨zzl, zzl, zzl, zzl, trivial⟩ trivial⟩
  simp only [zz1, zz2, zz3, zz4, zz5, zz6, zz7, zz8] at hc
  (try simp only [hml] at hc)
  (try simp only [zz1, zz2, zz3, zz4, zz5, zz6, zz7, zz8] at hc)
  refine tr_exit ?_
  repeat' first | refine zzs ?_ | refine zzr hnt rfl ?_ ?_ | refine zzd hnt rfl ?_ ?_ | refine zzb ?_ | refine zzk ?_
  · exact zzt
  exact tr_ret ⟨.inr rfl, _, _, rfl, trivial, rfl⟩
theorem tabAll {t : Tbl} (h : t.ok) : List.take 19 (List.drop 0 (eTab t)) = eTab t := List.take_of_length_le (Nat.le_of_eq (tabLen h))
theorem tabCel {t : Tbl} (h : t.ok) {i j : Nat} (hi : i < 2) (hj : j < 4) : List.take 2 (List.drop (0 + 3 + i * 8 + j * 2) (eTab t)) = eCel ((t.d.getD i []).getD j cel0) := by
  have h1 : List.drop (0 + 3) (eTab t) = (t.d.map eDr).flatten := rfl
  have h2 : i < t.d.length := by rw [h.h2]; exact hi
  have hm : t.d.getD i [] ∈ t.d := by
    rw [List.getD_eq_getElem?_getD, List.getElem?_eq_getElem h2]
    exact List.getElem_mem h2
  have h4 := h.h4 _ hm
  have hg := drGet h.h4 i h2
  have hg2 := flatGet eCel 2 cel0 (fun _ => rfl) (t.d.getD i []) j (by omega)
  rw [← List.drop_drop, ← List.drop_drop, h1]
  unfold eDr at hg
  rw [← hg] at hg2
  rw [← hg2]
  rw [List.drop_take, List.take_take, Nat.min_eq_left (by omega)]
  rfl
set_option maxRecDepth 10000 in
set_option maxHeartbeats 2000000 in
theorem sameTable_fn (t : Tbl) (h : t.ok) : FnD Tryz.prog 15 [.agg (.es (eTab t)), .agg (.es (eTab t))] (.v (.bool true)) := by
  refine fn_intro (T := tab) tOk Tryz.func15 rfl (by kernel_rfl) (by simp [Tryz.ntmps15]) ?_
  intro X hX
  have hnt : X.nt = 62 := hX
  clear hX
  have h19 := tabLen h
  have f19 : 0 + 19 ≤ (Cs.es (eTab t)).len := by show 0 + 19 ≤ (eTab t).length; omega
  have h1 := sameColumns_fn t.c
  repeat' first | refine zzs ?_ | refine zzr hnt rfl ?_ ?_ | refine zzd hnt rfl ?_ ?_ | refine zzb ?_ | refine zzk ?_
  · exact zzt
  repeat' first | refine zzs ?_ | refine zzb ?_ | refine zzk ?_
  refine tr_region (zzx hnt rfl ?_ (callG rfl rfl rfl rfl rfl rfl hnt rfl (fun hq => ?_) (fun hq => h1) (zzx hnt rfl ?_ (Lex.nil _)))) ?_
  · exact zza
  · exact zza
  · exact zza
  repeat' first | refine zzs ?_ | refine zzb ?_ | refine zzk ?_
  refine tr_cond rfl (fun hc => ?_) (fun hc => ?_)
  · have hc : (bif bif !(t.th == t.th) then true else !strEq (strB t.n) (strB t.n) then true else !true) = true := hc
    rw [strEq_B, decide_eq_true rfl, beq_self_eq_true] at hc
    exact absurd hc (by decide)
  repeat' first | refine zzs ?_ | refine zzr hnt rfl ?_ ?_ | refine zzd hnt rfl ?_ ?_ | refine zzb ?_ | refine zzk ?_
  · exact zzt
  repeat' first | refine zzs ?_ | refine zzb ?_ | refine zzk ?_
  refine tr_loop (σ := Nat) (fun i => St.of [(2, .one (.ptr 2 0 0)), (3, .one (.ptr 3 0 0)), (29, .one (.e (eI (i : Int))))] [(2, ⟨0, .box (.es (eTab t)), 0⟩), (3, ⟨0, .box (.es (eTab t)), 0⟩)]) (fun i => i ≤ 2) (fun i => 2 - i) (0) (le_of (ad := []) ⟨zzl, zzl, zzl, trivial⟩ (memOk_box rfl rfl rfl (memOk_box rfl rfl rfl trivial))) (Nat.zero_le _) ?_
  rintro i il
  repeat' first | refine zzs ?_ | refine zzr hnt rfl ?_ ?_ | refine zzd hnt rfl ?_ ?_ | refine zzb ?_ | refine zzk ?_
  · exact zzt
  repeat' first | refine zzs ?_ | refine zzb ?_ | refine zzk ?_
  refine tr_cond rfl (fun hc => ?_) (fun hc => ?_)
  · simp only [zz1, zz2, zz3, zz4, zz5, zz6, zz7, zz8] at hc
    repeat' first | refine zzs ?_ | refine zzr hnt rfl ?_ ?_ | refine zzd hnt rfl ?_ ?_ | refine zzb ?_ | refine zzk ?_
    · exact zzt
    · exact zzt
    repeat' first | refine zzs ?_ | refine zzb ?_ | refine zzk ?_
    refine tr_loop (σ := Nat) (fun j => St.of [(2, .one (.ptr 2 0 0)), (3, .one (.ptr 3 0 0)), (5, .one (.e (eI (i : Int)))), (29, .one (.e (eI (i : Int)))), (32, .one (.e (eI (j : Int))))] [(2, ⟨0, .box (.es (eTab t)), 0⟩), (3, ⟨0, .box (.es (eTab t)), 0⟩)]) (fun j => j ≤ 4) (fun j => 4 - j) (0) (le_of (ad := []) ⟨zzl, zzl, zzl, zzl, zzl, trivial⟩ (memOk_box rfl rfl rfl (memOk_box rfl rfl rfl trivial))) (Nat.zero_le _) ?_
    rintro j jl
    repeat' first | refine zzs ?_ | refine zzr hnt rfl ?_ ?_ | refine zzd hnt rfl ?_ ?_ | refine zzb ?_ | refine zzk ?_
    · exact zzt
    repeat' first | refine zzs ?_ | refine zzb ?_ | refine zzk ?_
    refine tr_cond rfl (fun hc => ?_) (fun hc => ?_)
    · simp only [zz1, zz2, zz3, zz4, zz5, zz6, zz7, zz8] at hc
      have hg : List.take 2 (List.drop (0 + 3 + (i : Int).toNat * 8 + (j : Int).toNat * 2) (eTab t)) = eCel ((t.d.getD i []).getD j cel0) := tabCel h (i := i) (j := j) (by omega) (by omega)
      have e2 : (Cs.es (List.take 2 (List.drop (0 + 3 + (i : Int).toNat * 8 + (j : Int).toNat * 2) (eTab t)))).len = 2 := congrArg List.length hg
      repeat' first | refine zzs ?_ | refine zzb ?_ | refine zzk ?_
      first | refine zzr hnt rfl ?_ ?_ | refine zzd hnt rfl ?_ ?_
      · exact zza
      have l2 : 0 + 3 + (i : Int).toNat * 8 + (j : Int).toNat * 2 + 2 ≤ (Cs.es (eTab t)).len := by show 0 + 3 + i * 8 + j * 2 + 2 ≤ (eTab t).length; omega
      repeat' first | refine zzs ?_ | refine zzb ?_ | refine zzk ?_
      first | refine zzr hnt rfl ?_ ?_ | refine zzd hnt rfl ?_ ?_
      · exact zza
      rw [hg]
      generalize (t.d.getD i []).getD j cel0 = c at *
      have h2 := sameRow_fn c.r
      repeat' first | refine zzs ?_ | refine zzb ?_ | refine zzk ?_
      refine tr_region (zzx hnt rfl ?_ (callG rfl rfl rfl rfl rfl rfl hnt rfl (fun hq => ?_) (fun hq => h2) (zzx hnt rfl ?_ (Lex.nil _)))) ?_
      · exact zza
      · exact zza
      · exact zza
      repeat' first | refine zzs ?_ | refine zzb ?_ | refine zzk ?_
      refine tr_cond rfl (fun hc => ?_) (fun hc => ?_)
      · have hc : (bif !(c.f == c.f) then true else !true) = true := hc
        rw [beq_self_eq_true] at hc
        exact absurd hc (by decide)
      repeat' first | refine zzs ?_ | refine zzr hnt rfl ?_ ?_ | refine zzd hnt rfl ?_ ?_ | refine zzb ?_ | refine zzk ?_
      · exact zzt
      refine ⟨j + 1, (by omega), by omega, le_of (ad := []) ⟨zzl, zzl, zzl, zzl, zzl, trivial⟩ (memOk_box rfl rfl rfl (memOk_box rfl rfl rfl trivial))⟩
    simp only [zz1, zz2, zz3, zz4, zz5, zz6, zz7, zz8] at hc
    refine tr_exit ?_
    repeat' first | refine zzs ?_ | refine zzr hnt rfl ?_ ?_ | refine zzd hnt rfl ?_ ?_ | refine zzb ?_ | refine zzk ?_
    · exact zzt
    refine ⟨i + 1, (by omega), by omega, le_of (ad := []) ⟨zzl, zzl, zzl, trivial⟩ (memOk_box rfl rfl rfl (memOk_box rfl rfl rfl trivial))⟩
  simp only [zz1, zz2, zz3, zz4, zz5, zz6, zz7, zz8] at hc
  refine tr_exit ?_
  repeat' first | refine zzs ?_ | refine zzr hnt rfl ?_ ?_ | refine zzd hnt rfl ?_ ?_ | refine zzb ?_ | refine zzk ?_
  · exact zzt
  exact tr_ret ⟨.inr rfl, _, _, rfl, trivial, rfl⟩
theorem memD {α : Type} {l : List α} {i : Nat} {d : α} (h : i < l.length) : l.getD i d ∈ l := by
  rw [List.getD_eq_getElem?_getD, List.getElem?_eq_getElem h]
  exact List.getElem_mem h
theorem putBack {l : List E} {k : Nat} {e : E} (h : l[k]? = some e) : List.take k l ++ [e] ++ List.drop (k + 1) l = l := by
  obtain ⟨hk, rfl⟩ := List.getElem?_eq_some_iff.1 h
  rw [List.append_assoc, List.singleton_append, ← List.drop_eq_getElem_cons hk, List.take_append_drop]
structure Tbl.short (t : Tbl) : Prop where
  c : t.c.length ≤ 1000
  r : ∀ d ∈ t.d, ∀ x ∈ d, x.r.length ≤ 1000
def tz : Tbl := ⟨false, [], [], [[cel0, cel0, cel0, cel0], [cel0, cel0, cel0, cel0]]⟩
theorem tzPut (t : Tbl) : List.take 0 (eTab tz) ++ eTab t ++ List.drop (0 + 19) (eTab tz) = eTab t := by
  show [] ++ eTab t ++ [] = _
  rw [List.append_nil, List.nil_append]
set_option maxRecDepth 10000 in
set_option maxHeartbeats 2000000 in
theorem fresh_fn (t : Tbl) (h : t.ok) (hs : t.short) : FnD Tryz.prog 99 [.agg (.es (eTab t))] (.agg (.es (eTab t))) := by
  refine fn_intro (T := tab) tOk Tryz.func99 rfl (by kernel_rfl) (by simp [Tryz.ntmps99]) ?_
  intro X hX
  have hnt : X.nt = 33 := hX
  clear hX
  have h19 := tabLen h
  have f19 : 0 + 19 ≤ (Cs.es (eTab t)).len := by show 0 + 19 ≤ (eTab t).length; omega
  have hcl := colsLen t.c
  have hcs := hs.c
  have b1 : 0 + (t.c.map eCol).length ≤ maxLen := by unfold maxLen; omega
  have b2 : (0 + (t.c.map eCol).length) * 32 ≤ 140737488355328 := by omega
  have e3 := cols3 t.c
  refine tr_seq ?_
  refine reg (T := tab) tOk hnt rfl ?_ ?_
  · exact zzt
  refine tr_seq ?_
  refine tr_region (lexCut 4 (zzx hnt rfl ?_ (Lex.nil _)) (le_frz 9 rfl rfl) rfl (zzx hnt rfl ?_ (Lex.nil _))) ?_
  · exact zza
  · exact zza
  repeat' first | refine zzs ?_ | refine zzr hnt rfl ?_ ?_ | refine zzd hnt rfl ?_ ?_ | refine zzb ?_ | refine zzk ?_
  · exact zzt
  repeat' first | refine zzs ?_ | refine zzb ?_ | refine zzk ?_
  refine tr_loop (σ := Nat) (fun i => St.of [(1, .one (.ptr 1 0 0)), (2, .one (.ptr 2 0 0)), (11, .one (.e (eI (i : Int))))] [(1, ⟨0, .box (.es (eTab t)), 0⟩), (2, ⟨0, .box (.es (eTab tz)), 0⟩)]) (fun i => i ≤ 2) (fun i => 2 - i) (0) (le_of (ad := []) ⟨zzl, zzl, zzl, trivial⟩ (memOk_box rfl rfl rfl (memOk_box rfl rfl (by repeat' first | exact trivial | exact rfl | apply And.intro) trivial))) (Nat.zero_le _) ?_
  rintro i il
  repeat' first | refine zzs ?_ | refine zzr hnt rfl ?_ ?_ | refine zzd hnt rfl ?_ ?_ | refine zzb ?_ | refine zzk ?_
  · exact zzt
  repeat' first | refine zzs ?_ | refine zzb ?_ | refine zzk ?_
  refine tr_cond rfl (fun hc => ?_) (fun hc => ?_)
  · simp only [zz1, zz2, zz3, zz4, zz5, zz6, zz7, zz8] at hc
    repeat' first | refine zzs ?_ | refine zzr hnt rfl ?_ ?_ | refine zzd hnt rfl ?_ ?_ | refine zzb ?_ | refine zzk ?_
    · exact zzt
    · exact zzt
    repeat' first | refine zzs ?_ | refine zzb ?_ | refine zzk ?_
    refine tr_loop (σ := Nat) (fun j => St.of [(1, .one (.ptr 1 0 0)), (2, .one (.ptr 2 0 0)), (3, .one (.e (eI (i : Int)))), (11, .one (.e (eI (i : Int)))), (14, .one (.e (eI (j : Int))))] [(1, ⟨0, .box (.es (eTab t)), 0⟩), (2, ⟨0, .box (.es (eTab tz)), 0⟩)]) (fun j => j ≤ 4) (fun j => 4 - j) (0) (le_of (ad := []) ⟨zzl, zzl, zzl, zzl, zzl, trivial⟩ (memOk_box rfl rfl rfl (memOk_box rfl rfl rfl trivial))) (Nat.zero_le _) ?_
    rintro j jl
    repeat' first | refine zzs ?_ | refine zzr hnt rfl ?_ ?_ | refine zzd hnt rfl ?_ ?_ | refine zzb ?_ | refine zzk ?_
    · exact zzt
    repeat' first | refine zzs ?_ | refine zzb ?_ | refine zzk ?_
    refine tr_cond rfl (fun hc => ?_) (fun hc => ?_)
    · simp only [zz1, zz2, zz3, zz4, zz5, zz6, zz7, zz8] at hc
      have hg : List.take 2 (List.drop (0 + 3 + (i : Int).toNat * 8 + (j : Int).toNat * 2) (eTab t)) = eCel ((t.d.getD i []).getD j cel0) := tabCel h (i := i) (j := j) (by omega) (by omega)
      have h2 : i < t.d.length := by rw [h.h2]; omega
      have hm : t.d.getD i [] ∈ t.d := by
        rw [List.getD_eq_getElem?_getD, List.getElem?_eq_getElem h2]
        exact List.getElem_mem h2
      have h4 := h.h4 _ hm
      have hm2 : (t.d.getD i []).getD j cel0 ∈ t.d.getD i [] := memD (by omega)
      have hr := row_fn _ (hs.r _ hm _ hm2)
      generalize (t.d.getD i []).getD j cel0 = c at *
      have hge : (eTab t)[0 + 3 + (i : Int).toNat * 8 + (j : Int).toNat * 2 + 1]? = some (eRow c.r) := by
        have := congrArg (fun l => l[1]?) hg
        simp only [List.getElem?_take, List.getElem?_drop] at this
        exact this
      have hgd : (eTab t).getD (0 + 3 + (i : Int).toNat * 8 + (j : Int).toNat * 2 + 1) E.dflt = eRow c.r := by rw [List.getD_eq_getElem?_getD, hge]; rfl
      have l2 : 0 + 3 + (i : Int).toNat * 8 + (j : Int).toNat * 2 + 1 + 1 ≤ (Cs.es (eTab t)).len := by show 0 + 3 + i * 8 + j * 2 + 1 + 1 ≤ (eTab t).length; omega
      have hpb := putBack hge
      have hx : E.sl ((eTab t).getD (0 + 3 + (i : Int).toNat * 8 + (j : Int).toNat * 2 + 1) E.dflt).xs = eRow c.r := by rw [hgd]; rfl
      have hA : ∀ z, D0.isA (K.slice z) ((Cs.es (eTab t)).at (0 + 3 + (i : Int).toNat * 8 + (j : Int).toNat * 2 + 1)) := by
        intro z
        show D0.isA _ (.e ((eTab t).getD _ _))
        rw [hgd]
        trivial
      rw [← hx] at hr hpb
      repeat' first | refine zzs ?_ | refine zzr hnt rfl ?_ ?_ | refine zzd hnt rfl ?_ ?_ | refine zzb ?_ | refine zzk ?_
      · exact zzt
      · exact zza
      repeat' first | refine zzs ?_ | refine zzb ?_ | refine zzk ?_
      refine tr_region (zzx hnt rfl ?_ (call rfl rfl rfl rfl rfl rfl rfl hnt (hr) (zzx hnt rfl ?_ (Lex.nil _)))) ?_
      · (dsimp only [AllP]; (repeat' first | exact trivial | assumption | exact Nat.le_of_ble_eq_true rfl | apply And.intro | exact eCells_len1 _ _ ‹_› | exact eCells_isByte _ _ ‹_› | (intro hh_; have hg_ := hh_; (try simp only [condT_ff, condF_tt, notE_t, notE_f, Bool.and_eq_true, ne_eq, decide_eq_true_eq, decide_eq_false_iff_not] at hg_)) | intro _ | exact rfl | omega))
        all_goals exact hA _
      · exact zza
      repeat' first | refine zzs ?_ | refine zzr hnt rfl ?_ ?_ | refine zzd hnt rfl ?_ ?_ | refine zzb ?_ | refine zzk ?_
      · exact zzt
      refine ⟨j + 1, (by omega), by omega, le_of (ad := []) ⟨zzl, zzl, zzl, zzl, zzl, trivial⟩ (memOk_box rfl rfl hpb (memOk_box rfl rfl rfl trivial))⟩
    simp only [zz1, zz2, zz3, zz4, zz5, zz6, zz7, zz8] at hc
    refine tr_exit ?_
    repeat' first | refine zzs ?_ | refine zzr hnt rfl ?_ ?_ | refine zzd hnt rfl ?_ ?_ | refine zzb ?_ | refine zzk ?_
    · exact zzt
    refine ⟨i + 1, (by omega), by omega, le_of (ad := []) ⟨zzl, zzl, zzl, trivial⟩ (memOk_box rfl rfl rfl (memOk_box rfl rfl rfl trivial))⟩
  simp only [zz1, zz2, zz3, zz4, zz5, zz6, zz7, zz8] at hc
  refine tr_exit ?_
  have e19 : (Cs.es (List.take 19 (List.drop 0 (eTab t)))).len = 19 := by rw [tabAll h]; exact h19
  repeat' first | refine zzs ?_ | refine zzb ?_ | refine zzk ?_
  first | refine zzr hnt rfl ?_ ?_ | refine zzd hnt rfl ?_ ?_
  · exact zza
  rw [tabAll h, tzPut]
  repeat' first | refine zzs ?_ | refine zzb ?_ | refine zzk ?_
  refine tr_ret ⟨.inr rfl, _, _, rfl, ⟨f19, trivial⟩, ?_⟩
  show D.agg (.es (List.take 19 (List.drop 0 (eTab t)))) = _
  rw [tabAll h]
end Go.Proofs.YthnadkafegmacaaGreatDoor
