/- Expressions: their size and depth. No condition. -/
import Derived.Test.YtcdifgacoleckaaDoorAbZ
import Derived.Test.YtcdifgacoleckaaDoorTKinA
namespace Go.Proofs.YtcdifgacoleckaaDoor
open Go Go.RowKit Go.Proofs.YtcdifgacoleckaaDoor.Ab
set_option linter.unusedSimpArgs false
set_option linter.unusedVariables false

inductive Ex where
  | mk (op : Int) (v : Val) (n : Byt) (ar : List Ex)
def Ex.op : Ex → Int | .mk o _ _ _ => o
def Ex.v : Ex → Val | .mk _ v _ _ => v
def Ex.n : Ex → Byt | .mk _ _ n _ => n
def Ex.ar : Ex → List Ex | .mk _ _ _ a => a
def ex0 : Ex := .mk 0 val0 [] []
mutual
def eEx : Ex → List E
  | .mk op v n ar => [eI op, eI v.k, eI v.i, eQ v.b, eT v.t, eT n, .sl (eExs ar)]
def eExs : List Ex → List (List E)
  | [] => []
  | a :: r => eEx a :: eExs r
end
mutual
def nodes : Ex → Nat
  | .mk _ _ _ ar => 1 + nodesL ar
def nodesL : List Ex → Nat
  | [] => 0
  | a :: r => nodes a + nodesL r
end
mutual
def ht : Ex → Nat
  | .mk _ _ _ ar => 1 + htL ar
def htL : List Ex → Nat
  | [] => 0
  | a :: r => max (ht a) (htL r)
end
mutual
def exOk : Ex → Prop
  | .mk op v n ar => (-9223372036854775808 ≤ op ∧ op ≤ 9223372036854775807) ∧ v.fit ∧ n.length ≤ maxLen ∧ ar.length ≤ maxLen ∧ exOkL ar
def exOkL : List Ex → Prop
  | [] => True
  | a :: r => exOk a ∧ exOkL r
end
theorem eEx_eq (x : Ex) : eEx x = [eI x.op, eI x.v.k, eI x.v.i, eQ x.v.b, eT x.v.t, eT x.n, .sl (eExs x.ar)] := by cases x; rw [eEx]; rfl
theorem eExs_map : ∀ l : List Ex, eExs l = l.map eEx
  | [] => rfl
  | a :: r => by rw [eExs, eExs_map r]; rfl
theorem exsLen (l : List Ex) : (eExs l).length = l.length := by rw [eExs_map, List.length_map]
theorem exsGet (l : List Ex) (i : Nat) (h : i < l.length) : (eExs l).getD i [] = eEx (l.getD i ex0) := by
  rw [eExs_map, List.getD_eq_getElem?_getD, List.getElem?_map, List.getElem?_eq_getElem h, List.getD_eq_getElem?_getD, List.getElem?_eq_getElem h]
  rfl
theorem ex7 (x : Ex) : (eEx x).length = 7 := by rw [eEx_eq]; rfl
theorem exs7 (l : List Ex) : ∀ cs ∈ eExs l, cs.length = 7 := by
  intro cs h
  rw [eExs_map] at h
  obtain ⟨q, _, rfl⟩ := List.mem_map.1 h
  exact ex7 q
theorem nodes_eq (x : Ex) : nodes x = 1 + nodesL x.ar := by cases x; rw [nodes]; rfl
theorem ht_eq (x : Ex) : ht x = 1 + htL x.ar := by cases x; rw [ht]; rfl
theorem nodes_mem : ∀ {l : List Ex} {a : Ex}, a ∈ l → nodes a ≤ nodesL l
  | b :: r, a, h => by
    rw [nodesL]
    rcases List.mem_cons.1 h with rfl | h
    · omega
    · have := nodes_mem h
      omega
theorem ht_mem : ∀ {l : List Ex} {a : Ex}, a ∈ l → ht a ≤ htL l
  | b :: r, a, h => by
    rw [htL]
    rcases List.mem_cons.1 h with rfl | h
    · omega
    · have := ht_mem h
      omega
theorem nodesL_app : ∀ l r : List Ex, nodesL (l ++ r) = nodesL l + nodesL r
  | [], r => by rw [List.nil_append, nodesL]; omega
  | a :: l, r => by rw [List.cons_append, nodesL, nodesL_app l r, nodesL]; omega
theorem htL_app : ∀ l r : List Ex, htL (l ++ r) = max (htL l) (htL r)
  | [], r => by rw [List.nil_append, htL]; omega
  | a :: l, r => by rw [List.cons_append, htL, htL_app l r, htL]; omega
theorem exOk_eq (x : Ex) : exOk x ↔ (-9223372036854775808 ≤ x.op ∧ x.op ≤ 9223372036854775807) ∧ x.v.fit ∧ x.n.length ≤ maxLen ∧ x.ar.length ≤ maxLen ∧ exOkL x.ar := by cases x; rw [exOk]; exact Iff.rfl
theorem exOk_mem : ∀ {l : List Ex} {a : Ex}, exOkL l → a ∈ l → exOk a
  | b :: r, a, hl, h => by
    rw [exOkL] at hl
    rcases List.mem_cons.1 h with rfl | h
    · exact hl.1
    · exact exOk_mem hl.2 h
theorem getD_mem {α : Type} {l : List α} {i : Nat} {d : α} (h : i < l.length) : l.getD i d ∈ l := by
  rw [List.getD_eq_getElem?_getD, List.getElem?_eq_getElem h]
  exact List.getElem_mem h
theorem exBox (x : Ex) (z : List E) (hz : z.length = 7) : List.take 0 z ++ List.take 7 (List.drop 0 (eEx x)) ++ List.drop (0 + 7) z = eEx x := by
  have h1 : List.take 7 (List.drop 0 (eEx x)) = eEx x := by
    rw [List.drop_zero]
    exact List.take_of_length_le (by rw [ex7]; exact Nat.le_refl _)
  have h2 : List.drop (0 + 7) z = [] := List.drop_eq_nil_of_le (by omega)
  rw [h1, h2]
  simp
theorem exAll (x : Ex) : List.take 7 (List.drop 0 (eEx x)) = eEx x := by
  rw [List.drop_zero]
  exact List.take_of_length_le (by rw [ex7]; exact Nat.le_refl _)
def eBl2 (n : Nat) (b : Bool) : D := .tup [(false, .es [eI (n : Int)]), (false, .es [eBl b])]
def sizF (x : Ex) (d : Nat) : Nat × Bool := if d + ht x ≤ 8 ∧ nodes x ≤ 40 then (nodes x, true) else (0, false)
def rSz (r : Nat × Bool) : D := eBl2 r.1 r.2
set_option maxRecDepth 10000 in
set_option maxHeartbeats 2000000 in
theorem size_step (x : Ex) (d : Nat) (hL : x.ar.length ≤ maxLen) (ih : ∀ a ∈ x.ar, FnD Tryd.prog 21 [.agg (.es (eEx a)), .one (.e (eI ((d + 1 : Nat) : Int)))] (rSz (sizF a (d + 1)))) : FnD Tryd.prog 21 [.agg (.es (eEx x)), .one (.e (eI (d : Int)))] (rSz (sizF x d)) := by
  refine fn_intro (T := tab) tOk Tryd.func21 rfl (by kernel_rfl) (by simp [Tryd.ntmps21]) ?_
  intro X hX
  have hnt : X.nt = 38 := hX
  clear hX
  have hml := exsLen x.ar
  unfold sizF
  have hn := nodes_eq x
  have hh := ht_eq x
  unfold maxLen at hL
  rw [eEx_eq]
  repeat' first | refine zzs ?_ | refine zzr hnt rfl ?_ ?_ | refine zzd hnt rfl ?_ ?_ | refine zzb ?_ | refine zzk ?_
  · exact zzt
  · exact zzt
  repeat' first | refine zzs ?_ | refine zzb ?_ | refine zzk ?_
  refine tr_cond rfl (fun hc => ?_) (fun hc => ?_)
  · simp only [zz1, zz2, zz3, zz4, zz5, zz6, zz7, zz8] at hc
    rw [if_neg (by omega)]
    repeat' first | refine zzs ?_ | refine zzr hnt rfl ?_ ?_ | refine zzd hnt rfl ?_ ?_ | refine zzb ?_ | refine zzk ?_
    · exact zzt
    exact tr_ret ⟨.inr rfl, _, _, rfl, trivial, rfl⟩
  simp only [zz1, zz2, zz3, zz4, zz5, zz6, zz7, zz8] at hc
  repeat' first | refine zzs ?_ | refine zzr hnt rfl ?_ ?_ | refine zzd hnt rfl ?_ ?_ | refine zzb ?_ | refine zzk ?_
  · exact zzt
  · exact zzt
  repeat' first | refine zzs ?_ | refine zzb ?_ | refine zzk ?_
  refine tr_loop (σ := Nat) (fun i => St.of [(1, .one (.e (eI (d : Int)))), (6, .one (.e (eI ((1 + nodesL (x.ar.take i) : Nat) : Int)))), (14, .one (.e (.sl (eExs x.ar)))), (15, .one (.e (eI ((eExs x.ar).length : Int)))), (16, .one (.e (eI (i : Int))))] []) (fun i => i ≤ x.ar.length ∧ d + htL (x.ar.take i) ≤ 7 ∧ 1 + nodesL (x.ar.take i) ≤ 40) (fun i => x.ar.length - i) (0) (le_of (ad := []) ⟨zzl, zzl, zzl, zzl, zzl, trivial⟩ trivial) ⟨Nat.zero_le _, by rw [List.take_zero, htL]; omega, by rw [List.take_zero, nodesL]; omega⟩ ?_
  rintro i ⟨il, ih1, ih2⟩
  repeat' first | refine zzs ?_ | refine zzr hnt rfl ?_ ?_ | refine zzd hnt rfl ?_ ?_ | refine zzb ?_ | refine zzk ?_
  · exact zzt
  repeat' first | refine zzs ?_ | refine zzb ?_ | refine zzk ?_
  refine tr_cond rfl (fun hc => ?_) (fun hc => ?_)
  · simp only [zz1, zz2, zz3, zz4, zz5, zz6, zz7, zz8] at hc
    (try simp only [hml] at hc)
    (try simp only [zz1, zz2, zz3, zz4, zz5, zz6, zz7, zz8] at hc)
    have hlt : i < x.ar.length := by omega
    have hg := (exsGet x.ar i hlt).trans (eEx_eq _)
    have hmem := getD_mem (d := ex0) hlt
    have hf := ih _ hmem
    have t1 : htL (x.ar.take (i + 1)) = max (htL (x.ar.take i)) (ht (x.ar.getD i ex0)) := by
      rw [take_succ (d := ex0) hlt, htL_app, htL, htL]
      omega
    have t2 : nodesL (x.ar.take (i + 1)) = nodesL (x.ar.take i) + nodes (x.ar.getD i ex0) := by
      rw [take_succ (d := ex0) hlt, nodesL_app, nodesL, nodesL]
      omega
    have m1 := nodes_mem hmem
    have m2 := ht_mem hmem
    have m3 : nodesL (x.ar.take (i + 1)) ≤ nodesL x.ar := by
      have := nodesL_app (x.ar.take (i + 1)) (x.ar.drop (i + 1))
      rw [List.take_append_drop] at this
      omega
    repeat' first | refine zzs ?_ | refine zzb ?_ | refine zzk ?_
    first | refine zzr hnt rfl ?_ ?_ | refine zzd hnt rfl ?_ ?_
    · rw [Int.toNat_natCast, hg, hml]
      exact zza
    rw [Int.toNat_natCast, hg]
    have hw : IntKind.i64.wrap ((d : Int) + 1) = ((d + 1 : Nat) : Int) := by rw [wrap64_id (by omega) (by omega)]; rfl
    rw [← hw, eEx_eq] at hf
    generalize x.ar.getD i ex0 = a at *
    unfold sizF at hf
    by_cases hs : d + 1 + ht a ≤ 8 ∧ nodes a ≤ 40
    · rw [if_pos hs] at hf
      repeat' first | refine zzs ?_ | refine zzb ?_ | refine zzk ?_
      refine tr_region (zzx hnt rfl ?_ (call rfl rfl rfl rfl rfl rfl rfl hnt (hf) (zzx hnt rfl ?_ (Lex.nil _)))) ?_
      · exact zzt
      · exact zzt
      have hw2 : IntKind.i64.wrap (((1 + nodesL (List.take i x.ar) : Nat) : Int) + (nodes a : Int)) = ((1 + nodesL (List.take (i + 1) x.ar) : Nat) : Int) := by rw [wrap64_id (by omega) (by omega)]; omega
      repeat' first | refine zzs ?_ | refine zzb ?_ | refine zzk ?_
      first | refine zzr hnt rfl ?_ ?_ | refine zzd hnt rfl ?_ ?_
      · exact zzt
      rw [hw2]
      repeat' first | refine zzs ?_ | refine zzb ?_ | refine zzk ?_
      first | refine zzr hnt rfl ?_ ?_ | refine zzd hnt rfl ?_ ?_
      · exact zzt
      repeat' first | refine zzs ?_ | refine zzb ?_ | refine zzk ?_
      refine tr_cond rfl (fun hc => ?_) (fun hc => ?_)
      · simp only [zz1, zz2, zz3, zz4, zz5, zz6, zz7, zz8] at hc
        have hc : (40 : Int) < ((1 + nodesL (List.take (i + 1) x.ar) : Nat) : Int) := by rcases hc with h | h; cases h; exact h
        rw [if_neg (by omega)]
        repeat' first | refine zzs ?_ | refine zzr hnt rfl ?_ ?_ | refine zzd hnt rfl ?_ ?_ | refine zzb ?_ | refine zzk ?_
        · exact zzt
        exact tr_ret ⟨.inr rfl, _, _, rfl, trivial, rfl⟩
      simp only [zz1, zz2, zz3, zz4, zz5, zz6, zz7, zz8] at hc
      repeat' first | refine zzs ?_ | refine zzr hnt rfl ?_ ?_ | refine zzd hnt rfl ?_ ?_ | refine zzb ?_ | refine zzk ?_
      · exact zzt
      refine ⟨i + 1, ⟨by omega, by omega, by omega⟩, by omega, le_of (ad := []) ⟨zzl, zzl, zzl, zzl, zzl, trivial⟩ trivial⟩
    · rw [if_neg hs] at hf
      repeat' first | refine zzs ?_ | refine zzb ?_ | refine zzk ?_
      refine tr_region (zzx hnt rfl ?_ (call rfl rfl rfl rfl rfl rfl rfl hnt (hf) (zzx hnt rfl ?_ (Lex.nil _)))) ?_
      · exact zzt
      · exact zzt
      repeat' first | refine zzs ?_ | refine zzr hnt rfl ?_ ?_ | refine zzd hnt rfl ?_ ?_ | refine zzb ?_ | refine zzk ?_
      · exact zzt
      · exact zzt
      refine tr_cond rfl (fun _ => ?_) (fun h => nomatch (show true = false from h))
      rw [if_neg (by omega)]
      repeat' first | refine zzs ?_ | refine zzr hnt rfl ?_ ?_ | refine zzd hnt rfl ?_ ?_ | refine zzb ?_ | refine zzk ?_
      · exact zzt
      exact tr_ret ⟨.inr rfl, _, _, rfl, trivial, rfl⟩
  simp only [zz1, zz2, zz3, zz4, zz5, zz6, zz7, zz8] at hc
  (try simp only [hml] at hc)
  (try simp only [zz1, zz2, zz3, zz4, zz5, zz6, zz7, zz8] at hc)
  refine tr_exit ?_
  rw [List.take_of_length_le (by omega)] at *
  rw [if_pos ⟨by omega, by omega⟩, hn]
  repeat' first | refine zzs ?_ | refine zzr hnt rfl ?_ ?_ | refine zzd hnt rfl ?_ ?_ | refine zzb ?_ | refine zzk ?_
  · exact zzt
  exact tr_ret ⟨.inr rfl, _, _, rfl, trivial, rfl⟩
theorem exOk_kids {x : Ex} (h : exOk x) : x.ar.length ≤ maxLen ∧ ∀ a ∈ x.ar, exOk a := by
  rw [exOk_eq] at h
  exact ⟨h.2.2.2.1, fun a ha => exOk_mem h.2.2.2.2 ha⟩
theorem kid_nodes {x a : Ex} {m : Nat} (h : nodes x ≤ m + 1) (ha : a ∈ x.ar) : nodes a ≤ m := by
  have := nodes_mem ha
  rw [nodes_eq] at h
  omega
theorem nodes_pos (x : Ex) : 1 ≤ nodes x := by rw [nodes_eq]; omega
theorem size_all : ∀ (m : Nat) (x : Ex), nodes x ≤ m → exOk x → ∀ d : Nat, FnD Tryd.prog 21 [.agg (.es (eEx x)), .one (.e (eI (d : Int)))] (rSz (sizF x d))
  | 0, x, h, _, _ => absurd h (by have := nodes_pos x; omega)
  | m + 1, x, h, ho, d => size_step x d (exOk_kids ho).1 fun a ha => size_all m a (kid_nodes h ha) ((exOk_kids ho).2 a ha) (d + 1)
theorem size_fn (x : Ex) (h : exOk x) (d : Nat) : FnD Tryd.prog 21 [.agg (.es (eEx x)), .one (.e (eI (d : Int)))] (rSz (sizF x d)) := size_all (nodes x) x (Nat.le_refl _) h d
def nxt (l : List Ex) : List Ex := l.flatMap Ex.ar
theorem nxt_cons (a : Ex) (r : List Ex) : nxt (a :: r) = a.ar ++ nxt r := rfl
theorem nodesL_nxt : ∀ l : List Ex, nodesL l = l.length + nodesL (nxt l)
  | [] => rfl
  | a :: r => by rw [nodesL, nodesL_nxt r, nodes_eq, nxt_cons, nodesL_app, List.length_cons]; omega
theorem htL_nxt : ∀ l : List Ex, l ≠ [] → htL l = 1 + htL (nxt l)
  | [], h => absurd rfl h
  | [a], _ => by
    have : nxt [a] = a.ar := List.append_nil _
    rw [htL, htL, ht_eq, this]
    omega
  | a :: b :: r, _ => by rw [htL, htL_nxt (b :: r) (by simp), ht_eq, nxt_cons a (b :: r), htL_app]; omega
theorem nodesL_len : ∀ l : List Ex, l.length ≤ nodesL l := fun l => by rw [nodesL_nxt]; omega
theorem eExs_app : ∀ l r : List Ex, eExs (l ++ r) = eExs l ++ eExs r := fun l r => by rw [eExs_map, List.map_append, ← eExs_map, ← eExs_map]
set_option maxRecDepth 10000 in
set_option maxHeartbeats 2000000 in
theorem within_fn (x : Ex) : FnD Tryd.prog 23 [.agg (.es (eEx x))] (.v (.bool (decide (ht x ≤ 7 ∧ nodes x ≤ 40)))) := by
  refine fn_intro (T := tab) tOk Tryd.func23 rfl (by kernel_rfl) (by simp [Tryd.ntmps23]) ?_
  intro X hX
  have hnt : X.nt = 45 := hX
  clear hX
  have hx7 := ex7 x
  have f1 : (Cs.es (eEx x)).len = 7 := hx7
  have f2 : 0 + 7 ≤ (Cs.es (eEx x)).len := by rw [f1]; exact Nat.le_refl _
  have f3 : (List.take 7 (List.drop 0 (eEx x))).length = 7 := by rw [exAll]; exact hx7
  repeat' first | refine zzs ?_ | refine zzb ?_ | refine zzk ?_
  first | refine zzr hnt rfl ?_ ?_ | refine zzd hnt rfl ?_ ?_
  · exact zzt
  repeat' first | refine zzs ?_ | refine zzb ?_ | refine zzk ?_
  first | refine zzr hnt rfl ?_ ?_ | refine zzd hnt rfl ?_ ?_
  · exact zza
  rw [exAll]
  repeat' first | refine zzs ?_ | refine zzb ?_ | refine zzk ?_
  first | refine zzr hnt rfl ?_ ?_ | refine zzd hnt rfl ?_ ?_
  · exact zzt
  repeat' first | refine zzs ?_ | refine zzb ?_ | refine zzk ?_
  first | refine zzr hnt rfl ?_ ?_ | refine zzd hnt rfl ?_ ?_
  · exact zzt
  refine tr_le (le_frz 3 rfl rfl) ?_
  repeat' first | refine zzs ?_ | refine zzb ?_ | refine zzk ?_
  refine tr_loop (σ := List Ex × Nat × Nat) (fun y => St.of [(3, .one (.e (.sl (eExs y.1)))), (4, .one (.e (eI (y.2.1 : Int)))), (5, .one (.e (eI (y.2.2 : Int))))] []) (fun y => y.2.1 + nodesL y.1 = nodes x ∧ y.2.2 + htL y.1 = ht x + 1 ∧ y.2.1 ≤ 40 ∧ y.2.2 ≤ 8 ∧ y.1.length ≤ 40) (fun y => nodesL y.1) (([x], 0, 1)) (le_of (ad := []) ⟨zzl, zzl, zzl, trivial⟩ trivial) ⟨by simp [nodesL], by simp [htL]; omega, Nat.zero_le _, Nat.le_of_ble_eq_true rfl, Nat.le_of_ble_eq_true rfl⟩ ?_
  rintro ⟨row, all, deep⟩ ⟨j1, j2, j3, j4, j5⟩
  dsimp only at j1 j2 j3 j4 j5 ⊢
  have hrl := exsLen row
  have hpos := nodesL_nxt row
  repeat' first | refine zzs ?_ | refine zzr hnt rfl ?_ ?_ | refine zzd hnt rfl ?_ ?_ | refine zzb ?_ | refine zzk ?_
  · exact zzt
  repeat' first | refine zzs ?_ | refine zzb ?_ | refine zzk ?_
  refine tr_cond rfl (fun hc => ?_) (fun hc => ?_)
  · simp only [zz1, zz2, zz3, zz4, zz5, zz6, zz7, zz8] at hc
    (try simp only [hrl] at hc)
    (try simp only [zz1, zz2, zz3, zz4, zz5, zz6, zz7, zz8] at hc)
    have hne : row ≠ [] := fun e => by rw [e] at hc; simp at hc
    have hht := htL_nxt row hne
    have hw : IntKind.i64.wrap ((all : Int) + ((eExs row).length : Int)) = ((all + row.length : Nat) : Int) := by rw [hrl, wrap64_id (by omega) (by omega)]; rfl
    repeat' first | refine zzs ?_ | refine zzb ?_ | refine zzk ?_
    first | refine zzr hnt rfl ?_ ?_ | refine zzd hnt rfl ?_ ?_
    · exact zzt
    rw [hw]
    repeat' first | refine zzs ?_ | refine zzb ?_ | refine zzk ?_
    first | refine zzr hnt rfl ?_ ?_ | refine zzd hnt rfl ?_ ?_
    · exact zzt
    repeat' first | refine zzs ?_ | refine zzb ?_ | refine zzk ?_
    refine tr_cond rfl (fun hc => ?_) (fun hc => ?_)
    · simp only [zz1, zz2, zz3, zz4, zz5, zz6, zz7, zz8] at hc
      have : ¬ (ht x ≤ 7 ∧ nodes x ≤ 40) := by
        have := htL_nxt row hne
        omega
      rw [decide_eq_false this]
      repeat' first | refine zzs ?_ | refine zzr hnt rfl ?_ ?_ | refine zzd hnt rfl ?_ ?_ | refine zzb ?_ | refine zzk ?_
      · exact zzt
      exact tr_ret ⟨.inr rfl, _, _, rfl, trivial, rfl⟩
    simp only [zz1, zz2, zz3, zz4, zz5, zz6, zz7, zz8] at hc
    repeat' first | refine zzs ?_ | refine zzr hnt rfl ?_ ?_ | refine zzd hnt rfl ?_ ?_ | refine zzb ?_ | refine zzk ?_
    · exact zzt
    · exact zzt
    repeat' first | refine zzs ?_ | refine zzb ?_ | refine zzk ?_
    refine tr_loop (σ := Nat) (fun i => St.of [(4, .one (.e (eI ((all + row.length : Nat) : Int)))), (5, .one (.e (eI (deep : Int)))), (6, .one (.own 91 0)), (26, .one (.e (.sl (eExs row)))), (27, .one (.e (eI ((eExs row).length : Int)))), (28, .one (.e (eI (i : Int))))] [(91, ⟨0, .row 7 (eExs (nxt (row.take i))), 0⟩)]) (fun i => i ≤ row.length ∧ (nxt (row.take i)).length ≤ 40) (fun i => row.length - i) (0) (le_of (ad := [91]) ⟨zzl, zzl, zzl, zzl, zzl, zzl, trivial⟩ (memOk_new rfl (by decide) trivial)) ⟨Nat.zero_le _, Nat.zero_le _⟩ ?_
    rintro i ⟨il, inx⟩
    repeat' first | refine zzs ?_ | refine zzr hnt rfl ?_ ?_ | refine zzd hnt rfl ?_ ?_ | refine zzb ?_ | refine zzk ?_
    · exact zzt
    repeat' first | refine zzs ?_ | refine zzb ?_ | refine zzk ?_
    refine tr_cond rfl (fun hc => ?_) (fun hc => ?_)
    · simp only [zz1, zz2, zz3, zz4, zz5, zz6, zz7, zz8] at hc
      (try simp only [hrl] at hc)
      (try simp only [zz1, zz2, zz3, zz4, zz5, zz6, zz7, zz8] at hc)
      have hlt : i < row.length := by omega
      have hg := (exsGet row i hlt).trans (eEx_eq _)
      have ht1 : nxt (row.take (i + 1)) = nxt (row.take i) ++ (row.getD i ex0).ar := by
        rw [take_succ (d := ex0) hlt]
        unfold nxt
        rw [List.flatMap_append]
        simp
      have hsub : (nxt (row.take (i + 1))).length ≤ nodesL (nxt row) := by
        have e : nxt row = nxt (row.take (i + 1)) ++ nxt (row.drop (i + 1)) := by
          unfold nxt
          rw [← List.flatMap_append, List.take_append_drop]
        rw [e, nodesL_app]
        have := nodesL_len (nxt (row.take (i + 1)))
        omega
      rw [ht1, List.length_append] at hsub
      repeat' first | refine zzs ?_ | refine zzb ?_ | refine zzk ?_
      first | refine zzr hnt rfl ?_ ?_ | refine zzd hnt rfl ?_ ?_
      · rw [Int.toNat_natCast, hg, hrl]
        exact zza
      rw [Int.toNat_natCast, hg]
      generalize row.getD i ex0 = a at *
      have hal := exsLen a.ar
      repeat' first | refine zzs ?_ | refine zzb ?_ | refine zzk ?_
      first | refine zzr hnt rfl ?_ ?_ | refine zzd hnt rfl ?_ ?_
      · exact zzt
      repeat' first | refine zzs ?_ | refine zzb ?_ | refine zzk ?_
      refine tr_cond rfl (fun hc => ?_) (fun hc => ?_)
      · simp only [zz1, zz2, zz3, zz4, zz5, zz6, zz7, zz8] at hc
        have hc : (40 : Int) < ((eExs a.ar).length : Int) := hc
        have : ¬ (ht x ≤ 7 ∧ nodes x ≤ 40) := by omega
        rw [decide_eq_false this]
        repeat' first | refine zzs ?_ | refine zzr hnt rfl ?_ ?_ | refine zzd hnt rfl ?_ ?_ | refine zzb ?_ | refine zzk ?_
        · exact zzt
        exact tr_ret ⟨.inr rfl, _, _, rfl, trivial, rfl⟩
      simp only [zz1, zz2, zz3, zz4, zz5, zz6, zz7, zz8] at hc
      have hc : ¬ (40 : Int) < ((eExs a.ar).length : Int) := hc
      have e7 : ∀ cs ∈ eExs a.ar, cs.length = 7 := exs7 a.ar
      have hnl := exsLen (nxt (row.take i))
      have b1 : (eExs (nxt (row.take i))).length + (eExs a.ar).length ≤ maxLen := by unfold maxLen; omega
      have b2 : ((eExs (nxt (row.take i))).length + (eExs a.ar).length) * 88 ≤ 140737488355328 := by omega
      repeat' first | refine zzs ?_ | refine zzb ?_ | refine zzk ?_
      first | refine zzr hnt rfl ?_ ?_ | refine zzd hnt rfl ?_ ?_
      · exact zza
      repeat' first | refine zzs ?_ | refine zzb ?_ | refine zzk ?_
      first | refine zzr hnt rfl ?_ ?_ | refine zzd hnt rfl ?_ ?_
      · exact zzt
      have hap : eExs (nxt (row.take (i + 1))) = eExs (nxt (row.take i)) ++ eExs a.ar := by rw [ht1, eExs_app]
      have hnl1 := exsLen (nxt (row.take (i + 1)))
      rw [ht1, List.length_append] at hnl1
      repeat' first | refine zzs ?_ | refine zzb ?_ | refine zzk ?_
      refine tr_cond rfl (fun hc => ?_) (fun hc => ?_)
      · have hc : decide ((40 : Int) < ((eExs (nxt (row.take i)) ++ eExs a.ar).length : Int)) = true := hc
        simp only [zz1, zz2, zz3, zz4, zz5, zz6, zz7, zz8] at hc
        rw [List.length_append] at hc
        have : ¬ (ht x ≤ 7 ∧ nodes x ≤ 40) := by omega
        rw [decide_eq_false this]
        repeat' first | refine zzs ?_ | refine zzr hnt rfl ?_ ?_ | refine zzd hnt rfl ?_ ?_ | refine zzb ?_ | refine zzk ?_
        · exact zzt
        exact tr_ret ⟨.inr rfl, _, _, rfl, trivial, rfl⟩
      have hc : decide ((40 : Int) < ((eExs (nxt (row.take i)) ++ eExs a.ar).length : Int)) = false := hc
      simp only [zz1, zz2, zz3, zz4, zz5, zz6, zz7, zz8] at hc
      rw [List.length_append] at hc
      repeat' first | refine zzs ?_ | refine zzr hnt rfl ?_ ?_ | refine zzd hnt rfl ?_ ?_ | refine zzb ?_ | refine zzk ?_
      · exact zzt
      refine ⟨i + 1, ⟨by omega, by rw [ht1, List.length_append]; omega⟩, by omega, le_of (ad := []) ⟨zzl, zzl, zzl, zzl, zzl, zzl, trivial⟩ (memOk_row rfl rfl hap.symm trivial)⟩
    simp only [zz1, zz2, zz3, zz4, zz5, zz6, zz7, zz8] at hc
    (try simp only [hrl] at hc)
    (try simp only [zz1, zz2, zz3, zz4, zz5, zz6, zz7, zz8] at hc)
    refine tr_exit ?_
    have htk : row.take i = row := List.take_of_length_le (by omega)
    rw [htk] at inx ⊢
    repeat' first | refine zzs ?_ | refine zzb ?_ | refine zzk ?_
    first | refine zzr hnt rfl ?_ ?_ | refine zzd hnt rfl ?_ ?_
    · exact zzt
    repeat' first | refine zzs ?_ | refine zzb ?_ | refine zzk ?_
    first | refine zzr hnt rfl ?_ ?_ | refine zzd hnt rfl ?_ ?_
    · exact zzt
    have hw3 : IntKind.i64.wrap ((deep : Int) + 1) = ((deep + 1 : Nat) : Int) := by rw [wrap64_id (by omega) (by omega)]; rfl
    rw [hw3]
    repeat' first | refine zzs ?_ | refine zzb ?_ | refine zzk ?_
    refine ⟨(nxt row, all + row.length, deep + 1), ⟨by dsimp only; omega, by dsimp only; omega, by dsimp only; omega, by dsimp only; omega, inx⟩, by dsimp only; omega, Le.trans (le_frz 3 rfl rfl) (le_of (ad := []) ⟨rfl, rfl, rfl, trivial⟩ trivial)⟩
  simp only [zz1, zz2, zz3, zz4, zz5, zz6, zz7, zz8] at hc
  (try simp only [hrl] at hc)
  (try simp only [zz1, zz2, zz3, zz4, zz5, zz6, zz7, zz8] at hc)
  refine tr_exit ?_
  obtain rfl : row = [] := List.eq_nil_of_length_eq_zero (by omega)
  have : ht x ≤ 7 ∧ nodes x ≤ 40 := by simp only [nodesL, htL] at j1 j2; omega
  rw [decide_eq_true this]
  repeat' first | refine zzs ?_ | refine zzr hnt rfl ?_ ?_ | refine zzd hnt rfl ?_ ?_ | refine zzb ?_ | refine zzk ?_
  · exact zzt
  exact tr_ret ⟨.inr rfl, _, _, rfl, trivial, rfl⟩
end Go.Proofs.YtcdifgacoleckaaDoor
namespace Go.Proofs.YtcdifgacoleckaaDoor
open Go Go.RowKit Go.Proofs.YtcdifgacoleckaaDoor.Ab
set_option linter.unusedSimpArgs false
set_option linter.unusedVariables false

def wantF (op : Int) : Int := if op = 1 ∨ op = 2 then 0 else if op = 3 ∨ op = 4 ∨ op = 17 ∨ op = 18 then 1 else 2
set_option maxRecDepth 10000 in
set_option maxHeartbeats 2000000 in
theorem wants_fn (op : Int) : FnD Tryd.prog 47 [.one (.e (eI op))] (.one (.e (eI (wantF op)))) := by
  refine fn_intro (T := tab) tOk Tryd.func47 rfl (by kernel_rfl) (by simp [Tryd.ntmps47]) ?_
  intro X hX
  have hnt : X.nt = 12 := hX
  clear hX
  unfold wantF
  repeat' first | refine zzs ?_ | refine zzr hnt rfl ?_ ?_ | refine zzd hnt rfl ?_ ?_ | refine zzb ?_ | refine zzk ?_
  · exact zzt
  · exact zzt
  · exact zzt
  repeat' first | refine zzs ?_ | refine zzb ?_ | refine zzk ?_
  refine tr_cond rfl (fun hc => ?_) (fun hc => ?_)
  · simp only [zz1, zz2, zz3, zz4, zz5, zz6, zz7, zz8] at hc
    repeat' first | refine zzs ?_ | refine zzb ?_ | refine zzk ?_
    refine tr_cond rfl (fun hc => ?_) (fun hc => ?_)
    · rw [if_pos (by omega)]
      repeat' first | refine zzs ?_ | refine zzr hnt rfl ?_ ?_ | refine zzd hnt rfl ?_ ?_ | refine zzb ?_ | refine zzk ?_
      · exact zzt
      exact tr_ret ⟨.inr rfl, _, _, rfl, trivial, rfl⟩
    simp only [zz1, zz2, zz3, zz4, zz5, zz6, zz7, zz8] at hc
    exact absurd ‹op = 1› hc
  simp only [zz1, zz2, zz3, zz4, zz5, zz6, zz7, zz8] at hc
  repeat' first | refine zzs ?_ | refine zzr hnt rfl ?_ ?_ | refine zzd hnt rfl ?_ ?_ | refine zzb ?_ | refine zzk ?_
  · exact zzt
  repeat' first | refine zzs ?_ | refine zzb ?_ | refine zzk ?_
  refine tr_cond rfl (fun hc => ?_) (fun hc => ?_)
  · simp only [zz1, zz2, zz3, zz4, zz5, zz6, zz7, zz8] at hc
    rw [if_pos (by omega)]
    repeat' first | refine zzs ?_ | refine zzr hnt rfl ?_ ?_ | refine zzd hnt rfl ?_ ?_ | refine zzb ?_ | refine zzk ?_
    · exact zzt
    exact tr_ret ⟨.inr rfl, _, _, rfl, trivial, rfl⟩
  simp only [zz1, zz2, zz3, zz4, zz5, zz6, zz7, zz8] at hc
  rw [if_neg (by omega)]
  repeat' first | refine zzs ?_ | refine zzr hnt rfl ?_ ?_ | refine zzd hnt rfl ?_ ?_ | refine zzb ?_ | refine zzk ?_
  · exact zzt
  repeat' first | refine zzs ?_ | refine zzb ?_ | refine zzk ?_
  refine tr_cond rfl (fun hc => ?_) (fun hc => ?_)
  · simp only [zz1, zz2, zz3, zz4, zz5, zz6, zz7, zz8] at hc
    have h := hc
    repeat' first | refine zzs ?_ | refine zzb ?_ | refine zzk ?_
    refine tr_cond rfl (fun hc => ?_) (fun hc => ?_)
    · rw [if_pos (by omega)]
      repeat' first | refine zzs ?_ | refine zzr hnt rfl ?_ ?_ | refine zzd hnt rfl ?_ ?_ | refine zzb ?_ | refine zzk ?_
      · exact zzt
      exact tr_ret ⟨.inr rfl, _, _, rfl, trivial, rfl⟩
    simp only [zz1, zz2, zz3, zz4, zz5, zz6, zz7, zz8] at hc
    exact absurd h hc
  simp only [zz1, zz2, zz3, zz4, zz5, zz6, zz7, zz8] at hc
  repeat' first | refine zzs ?_ | refine zzr hnt rfl ?_ ?_ | refine zzd hnt rfl ?_ ?_ | refine zzb ?_ | refine zzk ?_
  · exact zzt
  repeat' first | refine zzs ?_ | refine zzb ?_ | refine zzk ?_
  refine tr_cond rfl (fun hc => ?_) (fun hc => ?_)
  · simp only [zz1, zz2, zz3, zz4, zz5, zz6, zz7, zz8] at hc
    have h := hc
    repeat' first | refine zzs ?_ | refine zzb ?_ | refine zzk ?_
    refine tr_cond rfl (fun hc => ?_) (fun hc => ?_)
    · rw [if_pos (by omega)]
      repeat' first | refine zzs ?_ | refine zzr hnt rfl ?_ ?_ | refine zzd hnt rfl ?_ ?_ | refine zzb ?_ | refine zzk ?_
      · exact zzt
      exact tr_ret ⟨.inr rfl, _, _, rfl, trivial, rfl⟩
    simp only [zz1, zz2, zz3, zz4, zz5, zz6, zz7, zz8] at hc
    exact absurd h hc
  simp only [zz1, zz2, zz3, zz4, zz5, zz6, zz7, zz8] at hc
  repeat' first | refine zzs ?_ | refine zzr hnt rfl ?_ ?_ | refine zzd hnt rfl ?_ ?_ | refine zzb ?_ | refine zzk ?_
  · exact zzt
  repeat' first | refine zzs ?_ | refine zzb ?_ | refine zzk ?_
  refine tr_cond rfl (fun hc => ?_) (fun hc => ?_)
  · simp only [zz1, zz2, zz3, zz4, zz5, zz6, zz7, zz8] at hc
    have h := hc
    repeat' first | refine zzs ?_ | refine zzb ?_ | refine zzk ?_
    refine tr_cond rfl (fun hc => ?_) (fun hc => ?_)
    · rw [if_pos (by omega)]
      repeat' first | refine zzs ?_ | refine zzr hnt rfl ?_ ?_ | refine zzd hnt rfl ?_ ?_ | refine zzb ?_ | refine zzk ?_
      · exact zzt
      exact tr_ret ⟨.inr rfl, _, _, rfl, trivial, rfl⟩
    simp only [zz1, zz2, zz3, zz4, zz5, zz6, zz7, zz8] at hc
    exact absurd h hc
  simp only [zz1, zz2, zz3, zz4, zz5, zz6, zz7, zz8] at hc
  repeat' first | refine zzs ?_ | refine zzr hnt rfl ?_ ?_ | refine zzd hnt rfl ?_ ?_ | refine zzb ?_ | refine zzk ?_
  · exact zzt
  repeat' first | refine zzs ?_ | refine zzb ?_ | refine zzk ?_
  refine tr_cond rfl (fun hc => ?_) (fun hc => ?_)
  · simp only [zz1, zz2, zz3, zz4, zz5, zz6, zz7, zz8] at hc
    rw [if_pos (by omega)]
    repeat' first | refine zzs ?_ | refine zzr hnt rfl ?_ ?_ | refine zzd hnt rfl ?_ ?_ | refine zzb ?_ | refine zzk ?_
    · exact zzt
    exact tr_ret ⟨.inr rfl, _, _, rfl, trivial, rfl⟩
  simp only [zz1, zz2, zz3, zz4, zz5, zz6, zz7, zz8] at hc
  rw [if_neg (by omega)]
  repeat' first | refine zzs ?_ | refine zzr hnt rfl ?_ ?_ | refine zzd hnt rfl ?_ ?_ | refine zzb ?_ | refine zzk ?_
  · exact zzt
  exact tr_ret ⟨.inr rfl, _, _, rfl, trivial, rfl⟩
abbrev zv (v : Val) : Prop := v.k = 0 ∧ v.i = 0 ∧ v.b.toNat = 0 ∧ v.t.length = 0
def zvB (v : Val) : Bool := (eqD tab 9 25 (.agg (.es (List.take 4 (List.drop 0 (eVal v))))) (.agg (.es (List.take 4 (List.drop 0 (eVal val0)))))).2
theorem zvB_eq (v : Val) : zvB v = decide (zv v) := by
  unfold zvB
  rw [eqV2, Bool.eq_iff_iff, decide_eq_true_eq, decide_eq_true_eq]
  unfold val0 zv
  dsimp only
  rw [show v.t = [] ↔ v.t.length = 0 from List.length_eq_zero_iff.symm]
  exact Iff.rfl
theorem beq_dec {p q : Prop} [Decidable p] [Decidable q] : (decide p == !decide q) = decide (p ↔ ¬ q) := by
  by_cases hp : p <;> by_cases hq : q <;> simp [hp, hq]
def nodeF (x : Ex) : Int :=
  if x.op < 1 ∨ 20 < x.op then 2
  else if (x.ar.length : Int) ≠ wantF x.op then 3
  else if ¬ (x.op = 2 ↔ x.n.length ≠ 0) ∨ (x.op ≠ 1 ∧ ¬ zv x.v) then 3
  else if x.op = 2 ∧ ¬ nmOk x.n then 3
  else if x.op = 1 ∧ (chk x.v ≠ 0 ∨ x.v.i < 0) then 3 else 0
set_option maxRecDepth 10000 in
set_option maxHeartbeats 2000000 in
theorem node_fn (x : Ex) (hn : x.n.length ≤ maxLen) : FnG Tryd.prog 36 gK [.agg (.es (eEx x))] (.one (.e (eI (nodeF x)))) := by
  refine fn_introG (T := tab) tOk Tryd.func36 rfl (by kernel_rfl) (by simp [Tryd.ntmps36]) ?_
  intro X hX
  have hnt : X.nt = 61 := hX
  clear hX
  have hml := exsLen x.ar
  unfold nodeF
  rw [eEx_eq]
  repeat' first | refine zzs ?_ | refine zzr hnt rfl ?_ ?_ | refine zzd hnt rfl ?_ ?_ | refine zzb ?_ | refine zzk ?_
  · exact zzt
  · exact zzt
  repeat' first | refine zzs ?_ | refine zzb ?_ | refine zzk ?_
  refine tr_cond rfl (fun hc => ?_) (fun hc => ?_)
  · have hc : (bif decide (x.op < 1) then true else decide (20 < x.op)) = true := hc
    simp only [zz1, zz2, zz3, zz4, zz5, zz6, zz7, zz8] at hc
    rw [if_pos hc]
    repeat' first | refine zzs ?_ | refine zzr hnt rfl ?_ ?_ | refine zzd hnt rfl ?_ ?_ | refine zzb ?_ | refine zzk ?_
    · exact zzt
    exact tr_ret ⟨.inr rfl, _, _, rfl, trivial, rfl⟩
  have hc : (bif decide (x.op < 1) then true else decide (20 < x.op)) = false := hc
  simp only [zz1, zz2, zz3, zz4, zz5, zz6, zz7, zz8] at hc
  rw [if_neg (by omega)]
  repeat' first | refine zzs ?_ | refine zzb ?_ | refine zzk ?_
  refine tr_draw (T := tab) tOk hnt mixedR (lexD (T := tab) rfl ?_ (callD rfl rfl rfl rfl rfl rfl rfl rfl (wants_fn x.op) (lexD (T := tab) rfl ?_ (.nil _)))) (by decide +kernel) ?_
  · exact zzt
  · exact zzt
  repeat' first | refine zzs ?_ | refine zzb ?_ | refine zzk ?_
  refine tr_cond rfl (fun hc => ?_) (fun hc => ?_)
  · have hc : (!decide (((eExs x.ar).length : Int) = wantF x.op)) = true := hc
    simp only [zz1, zz2, zz3, zz4, zz5, zz6, zz7, zz8] at hc
    (try simp only [hml] at hc)
    (try simp only [zz1, zz2, zz3, zz4, zz5, zz6, zz7, zz8] at hc)
    rw [if_pos hc]
    repeat' first | refine zzs ?_ | refine zzr hnt rfl ?_ ?_ | refine zzd hnt rfl ?_ ?_ | refine zzb ?_ | refine zzk ?_
    · exact zzt
    exact tr_ret ⟨.inr rfl, _, _, rfl, trivial, rfl⟩
  have hc : (!decide (((eExs x.ar).length : Int) = wantF x.op)) = false := hc
  simp only [zz1, zz2, zz3, zz4, zz5, zz6, zz7, zz8] at hc
  (try simp only [hml] at hc)
  (try simp only [zz1, zz2, zz3, zz4, zz5, zz6, zz7, zz8] at hc)
  rw [if_neg (not_not_intro hc)]
  have q1 := eqV1 x.v val0
  repeat' first | refine zzs ?_ | refine zzb ?_ | refine zzk ?_
  first | refine zzr hnt rfl ?_ ?_ | refine zzd hnt rfl ?_ ?_
  · exact zza
  repeat' first | refine zzs ?_ | refine zzb ?_ | refine zzk ?_
  refine tr_cond rfl (fun hc => ?_) (fun hc => ?_)
  · have hc : (bif !(decide (x.op = 2) == !strEq (strB x.n) ⟨#[]⟩) then true else (bif !decide (x.op = 1) then !zvB x.v else false)) = true := hc
    rw [strEq_nil, zvB_eq, beq_dec] at hc
    simp only [zz1, zz2, zz3, zz4, zz5, zz6, zz7, zz8] at hc
    rw [if_pos hc]
    repeat' first | refine zzs ?_ | refine zzr hnt rfl ?_ ?_ | refine zzd hnt rfl ?_ ?_ | refine zzb ?_ | refine zzk ?_
    · exact zzt
    exact tr_ret ⟨.inr rfl, _, _, rfl, trivial, rfl⟩
  have hc : (bif !(decide (x.op = 2) == !strEq (strB x.n) ⟨#[]⟩) then true else (bif !decide (x.op = 1) then !zvB x.v else false)) = false := hc
  rw [strEq_nil, zvB_eq, beq_dec] at hc
  simp only [zz1, zz2, zz3, zz4, zz5, zz6, zz7, zz8] at hc
  rw [if_neg (by rintro (h | h); exact h hc.1; exact hc.2.elim (fun q => h.1 q) (fun q => h.2 q))]
  have hnm := tkF_name x.n
  repeat' first | refine zzs ?_ | refine zzb ?_ | refine zzk ?_
  refine tr_region (zzx hnt rfl ?_ (callVG rfl rfl rfl rfl rfl rfl hnt rfl (fun hq => ?_) rfl (fun hq => lexCheck_fn ⟨1, x.n, 0, 0⟩ hn) (zzx hnt rfl ?_ (Lex.nil _)))) ?_
  · exact zza
  · exact zza
  · exact zza
  repeat' first | refine zzs ?_ | refine zzb ?_ | refine zzk ?_
  refine tr_cond rfl (fun hc => ?_) (fun hc => ?_)
  · have hc : (bif decide (x.op = 2) then !decide (tkF ⟨1, x.n, 0, 0⟩ = 0) else false) = true := hc
    simp only [zz1, zz2, zz3, zz4, zz5, zz6, zz7, zz8] at hc
    rw [hnm] at hc
    rw [if_pos hc]
    repeat' first | refine zzs ?_ | refine zzr hnt rfl ?_ ?_ | refine zzd hnt rfl ?_ ?_ | refine zzb ?_ | refine zzk ?_
    · exact zzt
    exact tr_ret ⟨.inr rfl, _, _, rfl, trivial, rfl⟩
  have hc : (bif decide (x.op = 2) then !decide (tkF ⟨1, x.n, 0, 0⟩ = 0) else false) = false := hc
  simp only [zz1, zz2, zz3, zz4, zz5, zz6, zz7, zz8] at hc
  rw [hnm] at hc
  rw [if_neg (fun h => hc.elim (fun q => q h.1) (fun q => h.2 q))]
  repeat' first | refine zzs ?_ | refine zzb ?_ | refine zzk ?_
  refine tr_region (zzx hnt rfl ?_ (callVG rfl rfl rfl rfl rfl rfl hnt rfl (fun hq => ?_) rfl (fun hq => check_fn x.v) (zzx hnt rfl ?_ (Lex.nil _)))) ?_
  · exact zza
  · exact zza
  · exact zza
  repeat' first | refine zzs ?_ | refine zzb ?_ | refine zzk ?_
  refine tr_cond rfl (fun hc => ?_) (fun hc => ?_)
  · have hc : (bif decide (x.op = 1) then (bif !decide (chk x.v = 0) then true else decide (x.v.i < 0)) else false) = true := hc
    simp only [zz1, zz2, zz3, zz4, zz5, zz6, zz7, zz8] at hc
    rw [if_pos hc]
    repeat' first | refine zzs ?_ | refine zzr hnt rfl ?_ ?_ | refine zzd hnt rfl ?_ ?_ | refine zzb ?_ | refine zzk ?_
    · exact zzt
    exact tr_ret ⟨.inr rfl, _, _, rfl, trivial, rfl⟩
  have hc : (bif decide (x.op = 1) then (bif !decide (chk x.v = 0) then true else decide (x.v.i < 0)) else false) = false := hc
  simp only [zz1, zz2, zz3, zz4, zz5, zz6, zz7, zz8] at hc
  rw [if_neg (fun h => hc.elim (fun q => q h.1) (fun q => h.2.elim (fun e => e q.1) (fun e => q.2 e)))]
  repeat' first | refine zzs ?_ | refine zzr hnt rfl ?_ ?_ | refine zzd hnt rfl ?_ ?_ | refine zzb ?_ | refine zzk ?_
  · exact zzt
  exact tr_ret ⟨.inr rfl, _, _, rfl, trivial, rfl⟩
mutual
def ndF : Ex → Int
  | .mk op v n ar => if nodeF (.mk op v n ar) ≠ 0 then nodeF (.mk op v n ar) else ndL ar
def ndL : List Ex → Int
  | [] => 0
  | a :: r => if ndF a ≠ 0 then ndF a else ndL r
end
theorem ndF_eq (x : Ex) : ndF x = if nodeF x ≠ 0 then nodeF x else ndL x.ar := by cases x; rw [ndF]; rfl
def exF (x : Ex) : Int := if ht x ≤ 7 ∧ nodes x ≤ 40 then ndF x else 1
set_option maxRecDepth 10000 in
set_option maxHeartbeats 2000000 in
theorem nodes_step (x : Ex) (hL : x.ar.length ≤ maxLen) (hn : x.n.length ≤ maxLen) (ih : ∀ a ∈ x.ar, FnG Tryd.prog 22 gK [.agg (.es (eEx a))] (.one (.e (eI (ndF a))))) : FnG Tryd.prog 22 gK [.agg (.es (eEx x))] (.one (.e (eI (ndF x)))) := by
  refine fn_introG (T := tab) tOk Tryd.func22 rfl (by kernel_rfl) (by simp [Tryd.ntmps22]) ?_
  intro X hX
  have hnt : X.nt = 25 := hX
  clear hX
  have h1 := node_fn x hn
  have hml := exsLen x.ar
  unfold maxLen at hL
  rw [ndF_eq, eEx_eq]
  rw [eEx_eq] at h1
  repeat' first | refine zzs ?_ | refine zzr hnt rfl ?_ ?_ | refine zzd hnt rfl ?_ ?_ | refine zzb ?_ | refine zzk ?_
  · exact zzt
  repeat' first | refine zzs ?_ | refine zzb ?_ | refine zzk ?_
  refine tr_region (zzx hnt rfl ?_ (callV rfl rfl rfl rfl rfl rfl rfl hnt rfl (h1) (zzx hnt rfl ?_ (Lex.nil _)))) ?_
  · exact zzt
  · exact zzt
  repeat' first | refine zzs ?_ | refine zzr hnt rfl ?_ ?_ | refine zzd hnt rfl ?_ ?_ | refine zzb ?_ | refine zzk ?_
  · exact zzt
  repeat' first | refine zzs ?_ | refine zzb ?_ | refine zzk ?_
  refine tr_cond rfl (fun hc => ?_) (fun hc => ?_)
  · simp only [zz1, zz2, zz3, zz4, zz5, zz6, zz7, zz8] at hc
    rw [if_pos hc]
    repeat' first | refine zzs ?_ | refine zzr hnt rfl ?_ ?_ | refine zzd hnt rfl ?_ ?_ | refine zzb ?_ | refine zzk ?_
    · exact zzt
    exact tr_ret ⟨.inr rfl, _, _, rfl, trivial, rfl⟩
  simp only [zz1, zz2, zz3, zz4, zz5, zz6, zz7, zz8] at hc
  rw [if_neg (not_not_intro hc)]
  clear h1
  repeat' first | refine zzs ?_ | refine zzr hnt rfl ?_ ?_ | refine zzd hnt rfl ?_ ?_ | refine zzb ?_ | refine zzk ?_
  · exact zzt
  repeat' first | refine zzs ?_ | refine zzb ?_ | refine zzk ?_
  refine tr_loop (σ := Nat) (fun i => St.of [(13, .one (.e (.sl (eExs x.ar)))), (14, .one (.e (eI ((eExs x.ar).length : Int)))), (15, .one (.e (eI (i : Int)))), ((1000000 + 3), .one (.eptr fsE)), ((1000000 + 4), .one (.eptr acE))] []) (fun i => i ≤ x.ar.length ∧ ndL (x.ar.drop i) = ndL x.ar) (fun i => x.ar.length - i) (0) (le_of (ad := []) ⟨zzl, zzl, zzl, zzl, zzl, trivial⟩ trivial) ⟨Nat.zero_le _, rfl⟩ ?_
  rintro i ⟨il, hi⟩
  repeat' first | refine zzs ?_ | refine zzr hnt rfl ?_ ?_ | refine zzd hnt rfl ?_ ?_ | refine zzb ?_ | refine zzk ?_
  · exact zzt
  repeat' first | refine zzs ?_ | refine zzb ?_ | refine zzk ?_
  refine tr_cond rfl (fun hc => ?_) (fun hc => ?_)
  · simp only [zz1, zz2, zz3, zz4, zz5, zz6, zz7, zz8] at hc
    (try simp only [hml] at hc)
    (try simp only [zz1, zz2, zz3, zz4, zz5, zz6, zz7, zz8] at hc)
    have hlt : i < x.ar.length := by omega
    have hg := (exsGet x.ar i hlt).trans (eEx_eq _)
    have hf := ih _ (getD_mem (d := ex0) hlt)
    rw [drop_getD (d := ex0) hlt, ndL] at hi
    repeat' first | refine zzs ?_ | refine zzb ?_ | refine zzk ?_
    first | refine zzr hnt rfl ?_ ?_ | refine zzd hnt rfl ?_ ?_
    · rw [Int.toNat_natCast, hg, hml]
      exact zza
    rw [Int.toNat_natCast, hg]
    rw [eEx_eq] at hf
    generalize x.ar.getD i ex0 = a at *
    repeat' first | refine zzs ?_ | refine zzb ?_ | refine zzk ?_
    refine tr_region (zzx hnt rfl ?_ (callV rfl rfl rfl rfl rfl rfl rfl hnt rfl (hf) (zzx hnt rfl ?_ (Lex.nil _)))) ?_
    · exact zzt
    · exact zzt
    repeat' first | refine zzs ?_ | refine zzr hnt rfl ?_ ?_ | refine zzd hnt rfl ?_ ?_ | refine zzb ?_ | refine zzk ?_
    · exact zzt
    repeat' first | refine zzs ?_ | refine zzb ?_ | refine zzk ?_
    refine tr_cond rfl (fun hc => ?_) (fun hc => ?_)
    · simp only [zz1, zz2, zz3, zz4, zz5, zz6, zz7, zz8] at hc
      rw [if_pos hc] at hi
      rw [← hi]
      repeat' first | refine zzs ?_ | refine zzr hnt rfl ?_ ?_ | refine zzd hnt rfl ?_ ?_ | refine zzb ?_ | refine zzk ?_
      · exact zzt
      exact tr_ret ⟨.inr rfl, _, _, rfl, trivial, rfl⟩
    simp only [zz1, zz2, zz3, zz4, zz5, zz6, zz7, zz8] at hc
    rw [if_neg (not_not_intro hc)] at hi
    repeat' first | refine zzs ?_ | refine zzr hnt rfl ?_ ?_ | refine zzd hnt rfl ?_ ?_ | refine zzb ?_ | refine zzk ?_
    · exact zzt
    refine ⟨i + 1, ⟨by omega, hi⟩, by omega, le_of (ad := []) ⟨zzl, zzl, zzl, zzl, zzl, trivial⟩ trivial⟩
  simp only [zz1, zz2, zz3, zz4, zz5, zz6, zz7, zz8] at hc
  (try simp only [hml] at hc)
  (try simp only [zz1, zz2, zz3, zz4, zz5, zz6, zz7, zz8] at hc)
  refine tr_exit ?_
  rw [← hi, List.drop_eq_nil_of_le (by omega), ndL]
  repeat' first | refine zzs ?_ | refine zzr hnt rfl ?_ ?_ | refine zzd hnt rfl ?_ ?_ | refine zzb ?_ | refine zzk ?_
  · exact zzt
  exact tr_ret ⟨.inr rfl, _, _, rfl, trivial, rfl⟩
theorem exOk_parts {x : Ex} (h : exOk x) : x.v.fit ∧ x.n.length ≤ maxLen := by
  rw [exOk_eq] at h
  exact ⟨h.2.1, h.2.2.1⟩
theorem nodes_all : ∀ (m : Nat) (x : Ex), nodes x ≤ m → exOk x → FnG Tryd.prog 22 gK [.agg (.es (eEx x))] (.one (.e (eI (ndF x))))
  | 0, x, h, _ => absurd h (by have := nodes_pos x; omega)
  | m + 1, x, h, ho => nodes_step x (exOk_kids ho).1 (exOk_parts ho).2 fun a ha => nodes_all m a (kid_nodes h ha) ((exOk_kids ho).2 a ha)
set_option maxRecDepth 10000 in
set_option maxHeartbeats 2000000 in
theorem exprCheck_fn (x : Ex) (h : exOk x) : FnG Tryd.prog 13 gK [.agg (.es (eEx x))] (.one (.e (eI (exF x)))) := by
  refine fn_introG (T := tab) tOk Tryd.func13 rfl (by kernel_rfl) (by simp [Tryd.ntmps13]) ?_
  intro X hX
  have hnt : X.nt = 14 := hX
  clear hX
  have h1 := size_fn x h 1
  have h2 := nodes_all (nodes x) x (Nat.le_refl _) h
  unfold exF
  unfold sizF at h1
  rw [← exAll x] at h1 h2
  have hx7 := ex7 x
  have f2 : 0 + 7 ≤ (Cs.es (eEx x)).len := by show 0 + 7 ≤ (eEx x).length; rw [hx7]; exact Nat.le_refl _
  repeat' first | refine zzs ?_ | refine zzr hnt rfl ?_ ?_ | refine zzd hnt rfl ?_ ?_ | refine zzb ?_ | refine zzk ?_
  · exact zzt
  by_cases hs : ht x ≤ 7 ∧ nodes x ≤ 40
  · rw [if_pos (by omega)] at h1
    rw [if_pos hs]
    repeat' first | refine zzs ?_ | refine zzb ?_ | refine zzk ?_
    refine tr_region (zzx hnt rfl ?_ (call rfl rfl rfl rfl rfl rfl rfl hnt (h1) (zzx hnt rfl ?_ (Lex.nil _)))) ?_
    · exact zza
    · exact zzt
    repeat' first | refine zzs ?_ | refine zzr hnt rfl ?_ ?_ | refine zzd hnt rfl ?_ ?_ | refine zzb ?_ | refine zzk ?_
    · exact zzt
    refine tr_cond rfl (fun h => nomatch (show false = true from h)) (fun _ => ?_)
    repeat' first | refine zzs ?_ | refine zzb ?_ | refine zzk ?_
    refine tr_region (zzx hnt rfl ?_ (callV rfl rfl rfl rfl rfl rfl rfl hnt rfl (h2) (zzx hnt rfl ?_ (Lex.nil _)))) ?_
    · exact zza
    · exact zzt
    exact tr_ret ⟨.inr rfl, _, _, rfl, trivial, rfl⟩
  · rw [if_neg (by omega)] at h1
    rw [if_neg hs]
    repeat' first | refine zzs ?_ | refine zzb ?_ | refine zzk ?_
    refine tr_region (zzx hnt rfl ?_ (call rfl rfl rfl rfl rfl rfl rfl hnt (h1) (zzx hnt rfl ?_ (Lex.nil _)))) ?_
    · exact zza
    · exact zzt
    repeat' first | refine zzs ?_ | refine zzr hnt rfl ?_ ?_ | refine zzd hnt rfl ?_ ?_ | refine zzb ?_ | refine zzk ?_
    · exact zzt
    refine tr_cond rfl (fun _ => ?_) (fun h => nomatch (show true = false from h))
    repeat' first | refine zzs ?_ | refine zzr hnt rfl ?_ ?_ | refine zzd hnt rfl ?_ ?_ | refine zzb ?_ | refine zzk ?_
    · exact zzt
    exact tr_ret ⟨.inr rfl, _, _, rfl, trivial, rfl⟩
end Go.Proofs.YtcdifgacoleckaaDoor
namespace Go.Proofs.YtcdifgacoleckaaDoor
open Go Go.RowKit Go.Proofs.YtcdifgacoleckaaDoor.Ab
set_option linter.unusedSimpArgs false
set_option linter.unusedVariables false

theorem nodeF_zero {x : Ex} (h1 : 1 ≤ x.op) (h2 : x.op ≤ 20) : (nodeF x = 0 ∨ nodeF x = 3) ∧ (nodeF x = 0 ↔ (x.ar.length : Int) = wantF x.op ∧ (x.op = 2 ↔ x.n.length ≠ 0) ∧ (x.op = 1 ∨ zv x.v) ∧ (x.op = 2 → nmOk x.n) ∧ (x.op = 1 → chk x.v = 0 ∧ 0 ≤ x.v.i)) := by
  unfold nodeF
  rw [if_neg (by omega)]
  by_cases c1 : (x.ar.length : Int) = wantF x.op
  · rw [if_neg (not_not_intro c1)]
    by_cases c2 : ¬ (x.op = 2 ↔ x.n.length ≠ 0) ∨ (x.op ≠ 1 ∧ ¬ zv x.v)
    · rw [if_pos c2]
      refine ⟨.inr rfl, iff_of_false (by decide) ?_⟩
      rintro ⟨_, k2, k3, _⟩
      rcases c2 with c2 | c2
      · exact c2 k2
      · exact k3.elim c2.1 c2.2
    · rw [if_neg c2]
      by_cases c3 : x.op = 2 ∧ ¬ nmOk x.n
      · rw [if_pos c3]
        exact ⟨.inr rfl, iff_of_false (by decide) fun k => c3.2 (k.2.2.2.1 c3.1)⟩
      · rw [if_neg c3]
        by_cases c4 : x.op = 1 ∧ (chk x.v ≠ 0 ∨ x.v.i < 0)
        · rw [if_pos c4]
          refine ⟨.inr rfl, iff_of_false (by decide) fun k => ?_⟩
          have := k.2.2.2.2 c4.1
          omega
        · rw [if_neg c4]
          refine ⟨.inl rfl, iff_of_true rfl ⟨c1, Classical.byContradiction fun q => c2 (.inl q), Classical.byContradiction fun q => c2 (.inr ⟨fun e => q (.inl e), fun e => q (.inr e)⟩), fun e => Classical.byContradiction fun q => c3 ⟨e, q⟩, fun e => ?_⟩⟩
          omega
  · rw [if_pos c1]
    exact ⟨.inr rfl, iff_of_false (by decide) fun k => c1 k.1⟩
def wl : List Int := [0, 0, 0, 1, 1, 2, 2, 2, 2, 2, 2, 2, 2, 2, 2, 2, 2, 1, 1, 2, 2]
theorem wl_get {op : Int} (h1 : 1 ≤ op) (h2 : op ≤ 20) : (wl.map fun n => [eI n]).getD (Int.toNat op) [] = [eI (wantF op)] := by
  obtain ⟨k, rfl⟩ := Int.eq_ofNat_of_zero_le (show 0 ≤ op by omega)
  have h : ∀ k : Fin 21, 1 ≤ k.val → wl.getD k.val 0 = wantF (k.val : Int) := by decide
  have hk := h ⟨k, by omega⟩ (by show 1 ≤ k; omega)
  rw [Int.toNat_natCast]
  have hl : k < wl.length := by show k < 21; omega
  rw [List.getD_eq_getElem?_getD, List.getElem?_map, List.getElem?_eq_getElem hl]
  rw [List.getD_eq_getElem?_getD, List.getElem?_eq_getElem hl] at hk
  have hk : wl[k] = wantF (k : Int) := hk
  rw [Option.map_some, hk]
  rfl
theorem dec_iff {p : Prop} [Decidable p] {b : Bool} (h : b = true ↔ p) : b = decide p := by
  rw [Bool.eq_iff_iff, decide_eq_true_eq]
  exact h
set_option maxRecDepth 10000 in
set_option maxHeartbeats 2000000 in
theorem nodeFault_step (x : Ex) (hok : x.v.ok) (hL : x.ar.length ≤ maxLen) (hn : x.n.length ≤ maxLen) (ih : ∀ a ∈ x.ar, FnG Tryd.prog 24 gK [.agg (.es (eEx a))] (.one (.e (eI (ndF a))))) : FnG Tryd.prog 24 gK [.agg (.es (eEx x))] (.one (.e (eI (ndF x)))) := by
  refine fn_introG (T := tab) tOk Tryd.func24 rfl (by kernel_rfl) (by simp [Tryd.ntmps24]) ?_
  intro X hX
  have hnt : X.nt = 97 := hX
  clear hX
  have hml := exsLen x.ar
  have hln : (strB x.n).size = x.n.length := strB_size x.n
  unfold maxLen at hL
  rw [ndF_eq, eEx_eq]
  repeat' first | refine zzs ?_ | refine zzr hnt rfl ?_ ?_ | refine zzd hnt rfl ?_ ?_ | refine zzb ?_ | refine zzk ?_
  · exact zzt
  · exact zzt
  · exact zzt
  repeat' first | refine zzs ?_ | refine zzb ?_ | refine zzk ?_
  refine tr_cond rfl (fun hc => ?_) (fun hc => ?_)
  · have hc : (bif decide (x.op < 1) then true else decide (21 ≤ x.op)) = true := hc
    simp only [zz1, zz2, zz3, zz4, zz5, zz6, zz7, zz8] at hc
    have h2 : nodeF x = 2 := by unfold nodeF; rw [if_pos (by omega)]
    rw [h2]
    repeat' first | refine zzs ?_ | refine zzr hnt rfl ?_ ?_ | refine zzd hnt rfl ?_ ?_ | refine zzb ?_ | refine zzk ?_
    · exact zzt
    exact tr_ret ⟨.inr rfl, _, _, rfl, trivial, rfl⟩
  have hc : (bif decide (x.op < 1) then true else decide (21 ≤ x.op)) = false := hc
  simp only [zz1, zz2, zz3, zz4, zz5, zz6, zz7, zz8] at hc
  obtain ⟨z1, z2⟩ := nodeF_zero (x := x) (by omega) (by omega)
  have hw : (wl.map fun n => [eI n]).getD (Int.toNat ([eI x.op, eI x.v.k, eI x.v.i, eQ x.v.b, eT x.v.t, eT x.n, .sl (eExs x.ar)].getD (0 + 0) E.dflt).int) [] = [eI (wantF x.op)] := wl_get (op := x.op) (by omega) (by omega)
  have hw1 : 0 ≤ ([eI x.op, eI x.v.k, eI x.v.i, eQ x.v.b, eT x.v.t, eT x.n, .sl (eExs x.ar)].getD (0 + 0) E.dflt).int := by show 0 ≤ x.op; omega
  have hw2 : ([eI x.op, eI x.v.k, eI x.v.i, eQ x.v.b, eT x.v.t, eT x.n, .sl (eExs x.ar)].getD (0 + 0) E.dflt).int < ((wl.map fun n => [eI n]).length : Int) := by show x.op < 21; omega
  have e1 := eqV1 x.v val0
  refine tr_le (s' := St.of [(1, .one (.ptr 1 0 0)), (3, .one (.own 8 0)), ((1000000 + 3), .one (.eptr fsE)), ((1000000 + 4), .one (.eptr acE))] [(1, ⟨0, .box (.es [eI x.op, eI x.v.k, eI x.v.i, eQ x.v.b, eT x.v.t, eT x.n, .sl (eExs x.ar)]), 0⟩), (8, ⟨0, .row 1 (wl.map fun n => [eI n]), 0⟩)]) (le_of (ad := []) ⟨zzl, zzl, zzl, zzl, trivial⟩ (memOk_box rfl rfl rfl (memOk_row rfl rfl rfl trivial))) ?_
  repeat' first | refine zzs ?_ | refine zzb ?_ | refine zzk ?_
  first | refine zzr hnt rfl ?_ ?_ | refine zzd hnt rfl ?_ ?_
  · rw [hw]
    exact zza
  rw [hw]
  repeat' first | refine zzs ?_ | refine zzb ?_ | refine zzk ?_
  first | refine zzr hnt rfl ?_ ?_ | refine zzd hnt rfl ?_ ?_
  · exact zzt
  first | refine tr_join (σ := Bool) (fun y => St.of [(1, .one (.ptr 1 0 0)), (4, .v (.bool y)), ((1000000 + 3), .one (.eptr fsE)), ((1000000 + 4), .one (.eptr acE))] [(1, ⟨0, .box (.es [eI x.op, eI x.v.k, eI x.v.i, eQ x.v.b, eT x.v.t, eT x.n, .sl (eExs x.ar)]), 0⟩)]) (fun y => y = decide (nodeF x = 0)) ?_ ?_ | refine tr_seq (tr_join (σ := Bool) (fun y => St.of [(1, .one (.ptr 1 0 0)), (4, .v (.bool y)), ((1000000 + 3), .one (.eptr fsE)), ((1000000 + 4), .one (.eptr acE))] [(1, ⟨0, .box (.es [eI x.op, eI x.v.k, eI x.v.i, eQ x.v.b, eT x.v.t, eT x.n, .sl (eExs x.ar)]), 0⟩)]) (fun y => y = decide (nodeF x = 0)) ?_ ?_)
  · repeat' first | refine zzs ?_ | refine zzr hnt rfl ?_ ?_ | refine zzd hnt rfl ?_ ?_ | refine zzb ?_ | refine zzk ?_
    · exact zzt
    repeat' first | refine zzs ?_ | refine zzb ?_ | refine zzk ?_
    refine tr_cond rfl (fun hc => ?_) (fun hc => ?_)
    · have h1 : x.op = 1 := of_decide_eq_true hc
      clear hc
      repeat' first | refine zzs ?_ | refine zzb ?_ | refine zzk ?_
      refine tr_region (zzx hnt rfl ?_ (callVG rfl rfl rfl rfl rfl rfl hnt rfl (fun hq => ?_) rfl (fun hq => fault_fn x.v hok) (zzx hnt rfl ?_ (Lex.nil _)))) ?_
      · exact zza
      · exact zza
      · exact zza
      repeat' first | refine zzs ?_ | refine zzb ?_ | refine zzk ?_
      refine ⟨decide (nodeF x = 0), rfl, le_of (ad := []) ⟨⟨rfl, rfl, rfl, rfl, rfl⟩, ?_, rfl, rfl, trivial⟩ (memOk_box rfl rfl rfl trivial)⟩
      refine congrArg (fun z : Bool => E.v (.bool z)) ?_
      show (bif bif bif decide (((eExs x.ar).length : Int) = wantF x.op) then strEq (strB x.n) ⟨#[]⟩ else false then decide (chk x.v = 0) else false then decide (0 ≤ x.v.i) else false) = _
      rw [strEq_nil, hml]
      refine dec_iff ?_
      simp only [zz1, zz2, zz3, zz4, zz5, zz6, zz7, zz8]
      rw [z2]
      have : ¬ x.op = 2 := by omega
      constructor
      · rintro ⟨⟨⟨k1, k2⟩, k3⟩, k4⟩
        exact ⟨k1, by omega, .inl h1, fun e => absurd e this, fun _ => ⟨k3, k4⟩⟩
      · rintro ⟨k1, k2, _, _, k5⟩
        exact ⟨⟨⟨k1, by omega⟩, (k5 h1).1⟩, (k5 h1).2⟩
    have h1 : ¬ x.op = 1 := of_decide_eq_false hc
    clear hc
    repeat' first | refine zzs ?_ | refine zzr hnt rfl ?_ ?_ | refine zzd hnt rfl ?_ ?_ | refine zzb ?_ | refine zzk ?_
    · exact zzt
    repeat' first | refine zzs ?_ | refine zzb ?_ | refine zzk ?_
    refine tr_cond rfl (fun hc => ?_) (fun hc => ?_)
    · have h2 : x.op = 2 := of_decide_eq_true hc
      clear hc
      repeat' first | refine zzs ?_ | refine zzb ?_ | refine zzk ?_
      refine tr_region (zzx hnt rfl ?_ (callG rfl rfl rfl rfl rfl rfl hnt rfl (fun hq => ?_) (fun hq => isName_fn x.n hn) (zzx hnt rfl ?_ (Lex.nil _)))) ?_
      · exact zza
      · exact zza
      · exact zza
      repeat' first | refine zzs ?_ | refine zzb ?_ | refine zzk ?_
      refine ⟨decide (nodeF x = 0), rfl, le_of (ad := []) ⟨⟨rfl, rfl, rfl, rfl, rfl⟩, ?_, rfl, rfl, trivial⟩ (memOk_box rfl rfl rfl trivial)⟩
      refine congrArg (fun z : Bool => E.v (.bool z)) ?_
      show (bif bif bif decide (((eExs x.ar).length : Int) = wantF x.op) then zvB x.v else false then isNm x.n else false then decide (((strB x.n).size : Int) ≤ 8) else false) = _
      rw [zvB_eq, hml, hln]
      refine dec_iff ?_
      simp only [zz1, zz2, zz3, zz4, zz5, zz6, zz7, zz8]
      rw [z2]
      unfold nmOk
      constructor
      · rintro ⟨⟨⟨k1, k2⟩, k3⟩, k4⟩
        have hne : x.n.length ≠ 0 := fun e => by
          have : x.n = [] := List.length_eq_zero_iff.1 e
          rw [this] at k3
          exact absurd k3 (by decide)
        exact ⟨k1, iff_of_true h2 hne, .inr k2, fun _ => ⟨k3, by omega⟩, fun e => absurd e h1⟩
      · rintro ⟨k1, k2, k3, k4, _⟩
        exact ⟨⟨⟨k1, k3.resolve_left h1⟩, (k4 h2).1⟩, by have := (k4 h2).2; omega⟩
    have h2 : ¬ x.op = 2 := of_decide_eq_false hc
    clear hc
    repeat' first | refine zzs ?_ | refine zzb ?_ | refine zzk ?_
    first | refine zzr hnt rfl ?_ ?_ | refine zzd hnt rfl ?_ ?_
    · exact zza
    repeat' first | refine zzs ?_ | refine zzb ?_ | refine zzk ?_
    refine ⟨decide (nodeF x = 0), rfl, le_of (ad := []) ⟨⟨rfl, rfl, rfl, rfl, rfl⟩, ?_, rfl, rfl, trivial⟩ (memOk_box rfl rfl rfl trivial)⟩
    refine congrArg (fun z : Bool => E.v (.bool z)) ?_
    show (bif bif decide (((eExs x.ar).length : Int) = wantF x.op) then strEq (strB x.n) ⟨#[]⟩ else false then zvB x.v else false) = _
    rw [strEq_nil, zvB_eq, hml]
    refine dec_iff ?_
    simp only [zz1, zz2, zz3, zz4, zz5, zz6, zz7, zz8]
    rw [z2]
    constructor
    · rintro ⟨⟨k1, k2⟩, k3⟩
      exact ⟨k1, by omega, .inr k3, fun e => absurd e h2, fun e => absurd e h1⟩
    · rintro ⟨k1, k2, k3, _, _⟩
      exact ⟨⟨k1, by omega⟩, k3.resolve_left h1⟩
  rintro y rfl
  clear hw hw1 hw2 e1 z2
  repeat' first | refine zzs ?_ | refine zzr hnt rfl ?_ ?_ | refine zzd hnt rfl ?_ ?_ | refine zzb ?_ | refine zzk ?_
  · exact zzt
  rcases z1 with z1 | z1
  case inr =>
    rw [z1]
    refine tr_cond rfl (fun _ => ?_) (fun h => nomatch (show true = false from h))
    repeat' first | refine zzs ?_ | refine zzr hnt rfl ?_ ?_ | refine zzd hnt rfl ?_ ?_ | refine zzb ?_ | refine zzk ?_
    · exact zzt
    exact tr_ret ⟨.inr rfl, _, _, rfl, trivial, rfl⟩
  rw [z1]
  refine tr_cond rfl (fun h => nomatch (show false = true from h)) (fun _ => ?_)
  rw [if_neg (by decide)]
  repeat' first | refine zzs ?_ | refine zzb ?_ | refine zzk ?_
  first | refine zzr hnt rfl ?_ ?_ | refine zzd hnt rfl ?_ ?_
  · exact zza
  repeat' first | refine zzs ?_ | refine zzb ?_ | refine zzk ?_
  refine tr_loop (σ := Nat) (fun i => St.of [(85, .one (.e (.sl (eExs x.ar)))), (86, .one (.e (eI ((eExs x.ar).length : Int)))), (87, .one (.e (eI (i : Int)))), ((1000000 + 3), .one (.eptr fsE)), ((1000000 + 4), .one (.eptr acE))] []) (fun i => i ≤ x.ar.length ∧ ndL (x.ar.drop i) = ndL x.ar) (fun i => x.ar.length - i) (0) (le_of (ad := []) ⟨zzl, zzl, zzl, zzl, zzl, trivial⟩ trivial) ⟨Nat.zero_le _, rfl⟩ ?_
  rintro i ⟨il, hi⟩
  repeat' first | refine zzs ?_ | refine zzr hnt rfl ?_ ?_ | refine zzd hnt rfl ?_ ?_ | refine zzb ?_ | refine zzk ?_
  · exact zzt
  repeat' first | refine zzs ?_ | refine zzb ?_ | refine zzk ?_
  refine tr_cond rfl (fun hc => ?_) (fun hc => ?_)
  · simp only [zz1, zz2, zz3, zz4, zz5, zz6, zz7, zz8] at hc
    (try simp only [hml] at hc)
    (try simp only [zz1, zz2, zz3, zz4, zz5, zz6, zz7, zz8] at hc)
    have hlt : i < x.ar.length := by omega
    have hg := (exsGet x.ar i hlt).trans (eEx_eq _)
    have hf := ih _ (getD_mem (d := ex0) hlt)
    rw [drop_getD (d := ex0) hlt, ndL] at hi
    repeat' first | refine zzs ?_ | refine zzb ?_ | refine zzk ?_
    first | refine zzr hnt rfl ?_ ?_ | refine zzd hnt rfl ?_ ?_
    · rw [Int.toNat_natCast, hg, hml]
      exact zza
    rw [Int.toNat_natCast, hg]
    rw [eEx_eq] at hf
    generalize x.ar.getD i ex0 = a at *
    repeat' first | refine zzs ?_ | refine zzb ?_ | refine zzk ?_
    refine tr_region (zzx hnt rfl ?_ (callV rfl rfl rfl rfl rfl rfl rfl hnt rfl (hf) (zzx hnt rfl ?_ (Lex.nil _)))) ?_
    · exact zzt
    · exact zzt
    repeat' first | refine zzs ?_ | refine zzr hnt rfl ?_ ?_ | refine zzd hnt rfl ?_ ?_ | refine zzb ?_ | refine zzk ?_
    · exact zzt
    repeat' first | refine zzs ?_ | refine zzb ?_ | refine zzk ?_
    refine tr_cond rfl (fun hc => ?_) (fun hc => ?_)
    · simp only [zz1, zz2, zz3, zz4, zz5, zz6, zz7, zz8] at hc
      rw [if_pos hc] at hi
      rw [← hi]
      repeat' first | refine zzs ?_ | refine zzr hnt rfl ?_ ?_ | refine zzd hnt rfl ?_ ?_ | refine zzb ?_ | refine zzk ?_
      · exact zzt
      exact tr_ret ⟨.inr rfl, _, _, rfl, trivial, rfl⟩
    simp only [zz1, zz2, zz3, zz4, zz5, zz6, zz7, zz8] at hc
    rw [if_neg (not_not_intro hc)] at hi
    repeat' first | refine zzs ?_ | refine zzr hnt rfl ?_ ?_ | refine zzd hnt rfl ?_ ?_ | refine zzb ?_ | refine zzk ?_
    · exact zzt
    refine ⟨i + 1, ⟨by omega, hi⟩, by omega, le_of (ad := []) ⟨zzl, zzl, zzl, zzl, zzl, trivial⟩ trivial⟩
  simp only [zz1, zz2, zz3, zz4, zz5, zz6, zz7, zz8] at hc
  (try simp only [hml] at hc)
  (try simp only [zz1, zz2, zz3, zz4, zz5, zz6, zz7, zz8] at hc)
  refine tr_exit ?_
  rw [← hi, List.drop_eq_nil_of_le (by omega), ndL]
  repeat' first | refine zzs ?_ | refine zzr hnt rfl ?_ ?_ | refine zzd hnt rfl ?_ ?_ | refine zzb ?_ | refine zzk ?_
  · exact zzt
  exact tr_ret ⟨.inr rfl, _, _, rfl, trivial, rfl⟩
theorem nodeFault_all : ∀ (m : Nat) (x : Ex), nodes x ≤ m → exOk x → FnG Tryd.prog 24 gK [.agg (.es (eEx x))] (.one (.e (eI (ndF x))))
  | 0, x, h, _ => absurd h (by have := nodes_pos x; omega)
  | m + 1, x, h, ho => nodeFault_step x (exOk_parts ho).1.1 (exOk_kids ho).1 (exOk_parts ho).2 fun a ha => nodeFault_all m a (kid_nodes h ha) ((exOk_kids ho).2 a ha)
set_option maxRecDepth 10000 in
set_option maxHeartbeats 2000000 in
theorem exprFault_fn (x : Ex) (h : exOk x) : FnG Tryd.prog 14 gK [.agg (.es (eEx x))] (.one (.e (eI (exF x)))) := by
  refine fn_introG (T := tab) tOk Tryd.func14 rfl (by kernel_rfl) (by simp [Tryd.ntmps14]) ?_
  intro X hX
  have hnt : X.nt = 8 := hX
  clear hX
  have h1 := within_fn x
  have h2 := nodeFault_all (nodes x) x (Nat.le_refl _) h
  unfold exF
  rw [← exAll x] at h1 h2
  have hx7 := ex7 x
  have f2 : 0 + 7 ≤ (Cs.es (eEx x)).len := by show 0 + 7 ≤ (eEx x).length; rw [hx7]; exact Nat.le_refl _
  repeat' first | refine zzs ?_ | refine zzr hnt rfl ?_ ?_ | refine zzd hnt rfl ?_ ?_ | refine zzb ?_ | refine zzk ?_
  · exact zzt
  by_cases hs : ht x ≤ 7 ∧ nodes x ≤ 40
  · rw [decide_eq_true hs] at h1
    rw [if_pos hs]
    repeat' first | refine zzs ?_ | refine zzb ?_ | refine zzk ?_
    refine tr_region (zzx hnt rfl ?_ (call rfl rfl rfl rfl rfl rfl rfl hnt (h1) (zzx hnt rfl ?_ (Lex.nil _)))) ?_
    · exact zza
    · exact zzt
    refine tr_cond rfl (fun h => nomatch (show false = true from h)) (fun _ => ?_)
    repeat' first | refine zzs ?_ | refine zzb ?_ | refine zzk ?_
    refine tr_region (zzx hnt rfl ?_ (callV rfl rfl rfl rfl rfl rfl rfl hnt rfl (h2) (zzx hnt rfl ?_ (Lex.nil _)))) ?_
    · exact zza
    · exact zzt
    exact tr_ret ⟨.inr rfl, _, _, rfl, trivial, rfl⟩
  · rw [decide_eq_false hs] at h1
    rw [if_neg hs]
    repeat' first | refine zzs ?_ | refine zzb ?_ | refine zzk ?_
    refine tr_region (zzx hnt rfl ?_ (call rfl rfl rfl rfl rfl rfl rfl hnt (h1) (zzx hnt rfl ?_ (Lex.nil _)))) ?_
    · exact zza
    · exact zzt
    refine tr_cond rfl (fun _ => ?_) (fun h => nomatch (show true = false from h))
    repeat' first | refine zzs ?_ | refine zzr hnt rfl ?_ ?_ | refine zzd hnt rfl ?_ ?_ | refine zzb ?_ | refine zzk ?_
    · exact zzt
    exact tr_ret ⟨.inr rfl, _, _, rfl, trivial, rfl⟩
end Go.Proofs.YtcdifgacoleckaaDoor
