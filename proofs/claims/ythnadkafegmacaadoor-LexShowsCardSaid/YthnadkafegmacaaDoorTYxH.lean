/- Tokens as one text: the program's and the document's. No condition. -/
import Derived.Test.YthnadkafegmacaaDoorTYxG
namespace Go.Proofs.YthnadkafegmacaaDoor
open Go Go.RowKit Go.Proofs.YthnadkafegmacaaDoor.Ab
set_option linter.unusedSimpArgs false
set_option linter.unusedVariables false

def tok0 : Tok := ⟨0, [], 0, 0⟩
theorem tkLen (l : List Tok) : (l.map eTok).length = l.length := List.length_map ..
theorem tkGet (l : List Tok) (i : Nat) (h : i < l.length) : (l.map eTok).getD i [] = eTok (l.getD i tok0) := by
  rw [List.getD_eq_getElem?_getD, List.getElem?_map, List.getElem?_eq_getElem h, List.getD_eq_getElem?_getD, List.getElem?_eq_getElem h]
  rfl
theorem tkMem {l : List Tok} {i : Nat} (h : i < l.length) : l.getD i tok0 ∈ l := by
  rw [List.getD_eq_getElem?_getD, List.getElem?_eq_getElem h]
  exact List.getElem_mem h
theorem tkDrop {l : List Tok} {i : Nat} (h : i < l.length) : l.drop i = l.getD i tok0 :: l.drop (i + 1) := by
  rw [List.drop_eq_getElem_cons h, List.getD_eq_getElem?_getD, List.getElem?_eq_getElem h]
  rfl
theorem tkTake {l : List Tok} {i : Nat} (h : i < l.length) : l.take (i + 1) = l.take i ++ [l.getD i tok0] := by
  rw [List.take_add_one, List.getD_eq_getElem?_getD, List.getElem?_eq_getElem h]
  rfl
/-- the first that is wrong -/
def flt : List Tok → Int
  | [] => 0
  | t :: r => if tkF t ≠ 0 then tkF t else flt r
/-- texts, a blank between two -/
def jn (l : List Tok) : Byt := Lib.join (l.map txF) [32]
theorem join_one (a : Byt) : Lib.join [a] [32] = a := by simp [Lib.join, List.intercalate]
theorem join_more (a b : Byt) (r : List Byt) : Lib.join (a :: b :: r) [32] = a ++ ([32] ++ Lib.join (b :: r) [32]) := by simp [Lib.join, List.intercalate]
theorem join_snoc : ∀ (a : Byt) (r : List Byt) (x : Byt), Lib.join (a :: r ++ [x]) [32] = Lib.join (a :: r) [32] ++ [32] ++ x
  | a, [], x => by
    show Lib.join [a, x] [32] = _
    rw [join_more, join_one, join_one, List.append_assoc]
  | a, b :: r, x => by
    show Lib.join (a :: b :: (r ++ [x])) [32] = _
    rw [join_more, join_more, show b :: (r ++ [x]) = b :: r ++ [x] from rfl, join_snoc b r x]
    simp only [List.append_assoc]
theorem jn_zero {l : List Tok} {i : Nat} (h : i < l.length) (h0 : i = 0) : jn (l.take (i + 1)) = jn (l.take i) ++ txF (l.getD i tok0) := by
  rw [tkTake h]
  subst h0
  unfold jn
  show Lib.join [txF _] [32] = [] ++ txF _
  rw [join_one]
  rfl
theorem jn_succ {l : List Tok} {i : Nat} (h : i < l.length) (h0 : 0 < i) : jn (l.take (i + 1)) = jn (l.take i) ++ [32] ++ txF (l.getD i tok0) := by
  rw [tkTake h]
  unfold jn
  cases hl : l with
  | nil => rw [hl] at h; exact absurd h (Nat.not_lt_zero _)
  | cons a r =>
    obtain ⟨j, rfl⟩ : ∃ j, i = j + 1 := ⟨i - 1, by omega⟩
    rw [List.take_succ_cons, List.map_append]
    exact join_snoc _ _ _
/-- what lex.Show answers -/
def shwF (l : List Tok) : Byt × Int :=
  if 100 < l.length then ([], 1) else if flt l ≠ 0 then ([], flt l) else if 300 < (jn l).length then ([], 1) else (jn l, 0)
def rTE (x : Byt × Int) : D := .tup [(false, .es [eT x.1]), (false, .es [eI x.2])]
/-- a token as it can stand in memory -/
structure Tok.fit (t : Tok) : Prop where
  m : t.t.length ≤ maxLen
  i : t.i < 9223372036854775808
theorem sg_len {s : Byt} (h : isSg s = true) : s.length ≤ 2 := by
  obtain ⟨x, hx, he⟩ := List.any_eq_true.1 h
  have he := of_decide_eq_true he
  subst he
  have : ∀ x ∈ signs, x.length ≤ 2 := by decide
  exact this _ hx
theorem tk_ok {t : Tok} (hf : t.fit) (h : tkF t = 0) : tkOk t ∧ (txF t).length ≤ 100 := by
  unfold tkF at h
  split at h
  · cases h
  rename_i h1
  split at h
  · cases h
  rename_i h2
  split at h
  · cases h
  split at h
  · rename_i h4
    have h3 : t.k = 3 → 0 ≤ t.i := fun e => by
      unfold okTk at h4
      rw [if_neg (by omega), if_neg (by omega), if_pos e] at h4
      exact of_decide_eq_true h4
    have h5 : t.k = 4 → t.t.length ≤ 40 := fun e => by omega
    refine ⟨⟨fun e => ⟨h3 e, hf.i⟩, h5⟩, ?_⟩
    unfold txF
    split
    · rename_i e
      have := hf.i
      have := h3 e
      exact Nat.le_trans (dec_len 19 t.i.toNat (by decide) (by omega)) (by decide)
    split
    · rename_i e
      have := dbl_len t.t
      have := h5 e
      simp only [List.length_cons, List.length_append, List.length_nil]
      omega
    split
    · rw [List.length_cons, pad_len]
      decide
    rename_i k3 k4 k5
    by_cases k6 : t.k = 6
    · have : isSg t.t = true := by
        unfold okTk at h4
        rw [if_neg (by omega), if_neg (by omega), if_neg (by omega), if_neg (by omega), if_neg (by omega)] at h4
        exact h4
      exact Nat.le_trans (sg_len this) (by decide)
    · omega
  · cases h
def gL : List (Nat × List E) := [(3, fsE), (4, acE), (12, dbE)]
theorem Show_fn (l : List Tok) (hf : ∀ t ∈ l, t.fit) (hml : l.length ≤ maxLen) : FnK Tryd.prog KT 21 gL [.one (.e (.sl (l.map eTok)))] (rTE (shwF l)) := by
  refine fn_introK (T := tab) tOk Tryd.func21 rfl (by kernel_rfl) (by simp [Tryd.ntmps21]) KT_st ?_
  intro X hX hK
  have hnt : X.nt = 36 := hX
  clear hX
  have htl := tkLen l
  unfold shwF
  repeat' first | refine zzs ?_ | refine zzr hnt rfl ?_ ?_ | refine zzd hnt rfl ?_ ?_ | refine zzb ?_ | refine zzk ?_
  · exact zzt
  · exact zzt
  repeat' first | refine zzs ?_ | refine zzb ?_ | refine zzk ?_
  refine tr_cond rfl (fun hc => ?_) (fun hc => ?_)
  · simp only [zz1, zz2, zz3, zz4, zz5, zz6, zz7, zz8] at hc
    (try simp only [htl] at hc)
    (try simp only [zz1, zz2, zz3, zz4, zz5, zz6, zz7, zz8] at hc)
    rw [if_pos (by omega)]
    repeat' first | refine zzs ?_ | refine zzr hnt rfl ?_ ?_ | refine zzd hnt rfl ?_ ?_ | refine zzb ?_ | refine zzk ?_
    · exact zzt
    exact tr_ret ⟨.inr rfl, _, _, rfl, zzp, rfl⟩
  simp only [zz1, zz2, zz3, zz4, zz5, zz6, zz7, zz8] at hc
  (try simp only [htl] at hc)
  (try simp only [zz1, zz2, zz3, zz4, zz5, zz6, zz7, zz8] at hc)
  rw [if_neg (by omega)]
  have h100 : l.length ≤ 100 := by omega
  clear hc
  repeat' first | refine zzs ?_ | refine zzr hnt rfl ?_ ?_ | refine zzd hnt rfl ?_ ?_ | refine zzb ?_ | refine zzk ?_
  · exact zzt
  · exact zzt
  repeat' first | refine zzs ?_ | refine zzb ?_ | refine zzk ?_
  refine tr_loop (σ := Nat) (fun i => St.of [(4, .one (.e (eT (jn (l.take i))))), (11, .one (.e (.sl (l.map eTok)))), (12, .one (.e (eI ((l.map eTok).length : Int)))), (13, .one (.e (eI (i : Int)))), ((1000000 + 3), .one (.eptr fsE)), ((1000000 + 4), .one (.eptr acE)), ((1000000 + 12), .one (.eptr dbE))] []) (fun i => flt (l.drop i) = flt l ∧ i ≤ l.length ∧ (jn (l.take i)).length ≤ 101 * i) (fun i => l.length - i) (0) (le_of (ad := []) ⟨zzl, zzl, zzl, zzl, zzl, zzl, zzl, trivial⟩ trivial) ⟨rfl, Nat.zero_le _, Nat.zero_le _⟩ ?_
  rintro i ⟨hi, il, hjl⟩
  repeat' first | refine zzs ?_ | refine zzr hnt rfl ?_ ?_ | refine zzd hnt rfl ?_ ?_ | refine zzb ?_ | refine zzk ?_
  · exact zzt
  repeat' first | refine zzs ?_ | refine zzb ?_ | refine zzk ?_
  refine tr_cond rfl (fun hc => ?_) (fun hc => ?_)
  · simp only [zz1, zz2, zz3, zz4, zz5, zz6, zz7, zz8] at hc
    (try simp only [htl] at hc)
    (try simp only [zz1, zz2, zz3, zz4, zz5, zz6, zz7, zz8] at hc)
    have hlt : i < l.length := by omega
    have hg := tkGet l i hlt
    have hft := hf _ (tkMem hlt)
    have hj0 := jn_zero hlt
    have hj1 := jn_succ hlt
    rw [tkDrop hlt, flt] at hi
    repeat' first | refine zzs ?_ | refine zzb ?_ | refine zzk ?_
    first | refine zzr hnt rfl ?_ ?_ | refine zzd hnt rfl ?_ ?_
    · rw [Int.toNat_natCast, hg, htl]
      exact zza
    rw [Int.toNat_natCast, hg]
    generalize l.getD i tok0 = t at *
    have h1 := lexCheck_fn t hft.m
    repeat' first | refine zzs ?_ | refine zzb ?_ | refine zzk ?_
    refine tr_region (zzx hnt rfl ?_ (callV rfl rfl rfl rfl rfl rfl rfl hnt rfl (h1) (zzx hnt rfl ?_ (Lex.nil _)))) ?_
    · exact zza
    · exact zza
    repeat' first | refine zzs ?_ | refine zzr hnt rfl ?_ ?_ | refine zzd hnt rfl ?_ ?_ | refine zzb ?_ | refine zzk ?_
    · exact zzt
    repeat' first | refine zzs ?_ | refine zzb ?_ | refine zzk ?_
    refine tr_cond rfl (fun hc => ?_) (fun hc => ?_)
    · simp only [zz1, zz2, zz3, zz4, zz5, zz6, zz7, zz8] at hc
      have hc : ¬ tkF t = 0 := hc
      rw [if_pos hc] at hi
      rw [← hi, if_pos hc]
      repeat' first | refine zzs ?_ | refine zzr hnt rfl ?_ ?_ | refine zzd hnt rfl ?_ ?_ | refine zzb ?_ | refine zzk ?_
      · exact zzt
      exact tr_ret ⟨.inr rfl, _, _, rfl, zzp, rfl⟩
    simp only [zz1, zz2, zz3, zz4, zz5, zz6, zz7, zz8] at hc
    have hc : tkF t = 0 := hc
    rw [if_neg (not_not_intro hc)] at hi
    obtain ⟨hok, h100t⟩ := tk_ok hft hc
    have h2 := show_fn t hok
    have hjl2 : (jn (l.take i)).length ≤ 10100 := by omega
    repeat' first | refine zzs ?_ | refine zzr hnt rfl ?_ ?_ | refine zzd hnt rfl ?_ ?_ | refine zzb ?_ | refine zzk ?_
    · exact zzt
    repeat' first | refine zzs ?_ | refine zzb ?_ | refine zzk ?_
    refine tr_cond rfl (fun hc => ?_) (fun hc => ?_)
    · simp only [zz1, zz2, zz3, zz4, zz5, zz6, zz7, zz8] at hc
      have hj1 := hj1 (by omega)
      repeat' first | refine zzs ?_ | refine zzb ?_ | refine zzk ?_
      first | refine zzr hnt rfl ?_ ?_ | refine zzd hnt rfl ?_ ?_
      · simp only [strB_len, maxLen, show (⟨#[32]⟩ : ByteArray).size = 1 from rfl]
        exact zza
      have he : strB (jn (l.take i)) ++ (⟨#[32]⟩ : ByteArray) = strB (jn (l.take i) ++ [32]) := (strB_app _ [32]).symm
      rw [he]
      repeat' first | refine zzs ?_ | refine zzb ?_ | refine zzk ?_
      refine tr_region (zzx hnt rfl ?_ (callK rfl rfl rfl rfl rfl rfl rfl hnt rfl hK (h2) (zzx hnt rfl ?_ (Lex.nil _)))) ?_
      · exact zza
      · simp only [strB_len, maxLen, List.length_append, List.length_cons, List.length_nil]
        exact zza
      rw [← strB_app, ← hj1]
      repeat' first | refine zzs ?_ | refine zzr hnt rfl ?_ ?_ | refine zzd hnt rfl ?_ ?_ | refine zzb ?_ | refine zzk ?_
      · exact zzt
      refine ⟨i + 1, ⟨hi, hlt, by rw [hj1]; simp only [List.length_append, List.length_cons, List.length_nil]; omega⟩, by omega, le_of (ad := []) ⟨zzl, zzl, zzl, zzl, zzl, zzl, zzl, trivial⟩ trivial⟩
    simp only [zz1, zz2, zz3, zz4, zz5, zz6, zz7, zz8] at hc
    have hj0 := hj0 (by omega)
    repeat' first | refine zzs ?_ | refine zzb ?_ | refine zzk ?_
    refine tr_region (zzx hnt rfl ?_ (callK rfl rfl rfl rfl rfl rfl rfl hnt rfl hK (h2) (zzx hnt rfl ?_ (Lex.nil _)))) ?_
    · exact zza
    · simp only [strB_len, maxLen]
      exact zza
    rw [← strB_app, ← hj0]
    repeat' first | refine zzs ?_ | refine zzr hnt rfl ?_ ?_ | refine zzd hnt rfl ?_ ?_ | refine zzb ?_ | refine zzk ?_
    · exact zzt
    refine ⟨i + 1, ⟨hi, hlt, by rw [hj0]; simp only [List.length_append]; omega⟩, by omega, le_of (ad := []) ⟨zzl, zzl, zzl, zzl, zzl, zzl, zzl, trivial⟩ trivial⟩
  simp only [zz1, zz2, zz3, zz4, zz5, zz6, zz7, zz8] at hc
  (try simp only [htl] at hc)
  (try simp only [zz1, zz2, zz3, zz4, zz5, zz6, zz7, zz8] at hc)
  have hi2 : i = l.length := by omega
  rw [hi2, List.drop_length] at hi
  rw [hi2, List.take_length] at hjl ⊢
  rw [if_neg (show ¬ flt l ≠ 0 from fun h => h hi.symm)]
  refine tr_exit ?_
  repeat' first | refine zzs ?_ | refine zzr hnt rfl ?_ ?_ | refine zzd hnt rfl ?_ ?_ | refine zzb ?_ | refine zzk ?_
  · exact zzt
  repeat' first | refine zzs ?_ | refine zzb ?_ | refine zzk ?_
  refine tr_cond rfl (fun hc => ?_) (fun hc => ?_)
  · have hc : 300 < (jn l).length := by
      have hc : (300 : Int) < ((strB (jn l)).size : Int) := of_decide_eq_true hc
      rw [strB_len] at hc
      omega
    rw [if_pos hc]
    repeat' first | refine zzs ?_ | refine zzr hnt rfl ?_ ?_ | refine zzd hnt rfl ?_ ?_ | refine zzb ?_ | refine zzk ?_
    · exact zzt
    exact tr_ret ⟨.inr rfl, _, _, rfl, zzp, rfl⟩
  have hc : ¬ 300 < (jn l).length := by
    have hc : ¬ (300 : Int) < ((strB (jn l)).size : Int) := of_decide_eq_false hc
    rw [strB_len] at hc
    omega
  rw [if_neg hc]
  repeat' first | refine zzs ?_ | refine zzr hnt rfl ?_ ?_ | refine zzd hnt rfl ?_ ?_ | refine zzb ?_ | refine zzk ?_
  · exact zzt
  exact tr_ret ⟨.inr rfl, _, _, rfl, zzp, rfl⟩
set_option maxRecDepth 10000 in
set_option maxHeartbeats 2000000 in
theorem TextOf_fn (l : List Tok) (hf : ∀ t ∈ l, t.fit) (hml : l.length ≤ maxLen) : FnG Tryd.prog 22 gK [.one (.e (.sl (l.map eTok)))] (rTE (shwF l)) := by
  refine fn_introG (T := tab) tOk Tryd.func22 rfl (by kernel_rfl) (by simp [Tryd.ntmps22]) ?_
  intro X hX
  have hnt : X.nt = 35 := hX
  clear hX
  have htl := tkLen l
  unfold shwF
  repeat' first | refine zzs ?_ | refine zzr hnt rfl ?_ ?_ | refine zzd hnt rfl ?_ ?_ | refine zzb ?_ | refine zzk ?_
  · exact zzt
  · exact zzt
  repeat' first | refine zzs ?_ | refine zzb ?_ | refine zzk ?_
  refine tr_cond rfl (fun hc => ?_) (fun hc => ?_)
  · simp only [zz1, zz2, zz3, zz4, zz5, zz6, zz7, zz8] at hc
    (try simp only [htl] at hc)
    (try simp only [zz1, zz2, zz3, zz4, zz5, zz6, zz7, zz8] at hc)
    rw [if_pos (by omega)]
    repeat' first | refine zzs ?_ | refine zzr hnt rfl ?_ ?_ | refine zzd hnt rfl ?_ ?_ | refine zzb ?_ | refine zzk ?_
    · exact zzt
    exact tr_ret ⟨.inr rfl, _, _, rfl, zzp, rfl⟩
  simp only [zz1, zz2, zz3, zz4, zz5, zz6, zz7, zz8] at hc
  (try simp only [htl] at hc)
  (try simp only [zz1, zz2, zz3, zz4, zz5, zz6, zz7, zz8] at hc)
  rw [if_neg (by omega)]
  have h100 : l.length ≤ 100 := by omega
  clear hc
  repeat' first | refine zzs ?_ | refine zzr hnt rfl ?_ ?_ | refine zzd hnt rfl ?_ ?_ | refine zzb ?_ | refine zzk ?_
  · exact zzt
  · exact zzt
  repeat' first | refine zzs ?_ | refine zzb ?_ | refine zzk ?_
  refine tr_loop (σ := Nat) (fun i => St.of [(4, .one (.own 4000 0)), (12, .one (.e (.sl (l.map eTok)))), (13, .one (.e (eI ((l.map eTok).length : Int)))), (14, .one (.e (eI (i : Int)))), ((1000000 + 3), .one (.eptr fsE)), ((1000000 + 4), .one (.eptr acE))] [(4000, ⟨0, .row 1 (((l.take i).map txF).map fun t => [eT t]), 0⟩)]) (fun i => flt (l.drop i) = flt l ∧ i ≤ l.length ∧ (jn (l.take i)).length ≤ 101 * i) (fun i => l.length - i) (0) (le_of (ad := [4000]) ⟨zzl, zzl, zzl, zzl, zzl, zzl, trivial⟩ (memOk_new rfl (by decide) trivial)) ⟨rfl, Nat.zero_le _, Nat.zero_le _⟩ ?_
  rintro i ⟨hi, il, hjl⟩
  repeat' first | refine zzs ?_ | refine zzr hnt rfl ?_ ?_ | refine zzd hnt rfl ?_ ?_ | refine zzb ?_ | refine zzk ?_
  · exact zzt
  repeat' first | refine zzs ?_ | refine zzb ?_ | refine zzk ?_
  refine tr_cond rfl (fun hc => ?_) (fun hc => ?_)
  · simp only [zz1, zz2, zz3, zz4, zz5, zz6, zz7, zz8] at hc
    (try simp only [htl] at hc)
    (try simp only [zz1, zz2, zz3, zz4, zz5, zz6, zz7, zz8] at hc)
    have hlt : i < l.length := by omega
    have hg := tkGet l i hlt
    have hft := hf _ (tkMem hlt)
    have hj0 := jn_zero hlt
    have hj1 := jn_succ hlt
    have htk := tkTake hlt
    have hpl : (((l.take i).map txF).map fun t => [eT t]).length = i := by
      rw [List.length_map, List.length_map, List.length_take]
      omega
    have hq1 : (((l.take i).map txF).map fun t => [eT t]).length + 1 ≤ maxLen := by rw [hpl]; simp only [maxLen]; omega
    have hq2 : ((((l.take i).map txF).map fun t => [eT t]).length + 1) * 16 ≤ 140737488355328 := by rw [hpl]; omega
    rw [tkDrop hlt, flt] at hi
    repeat' first | refine zzs ?_ | refine zzb ?_ | refine zzk ?_
    first | refine zzr hnt rfl ?_ ?_ | refine zzd hnt rfl ?_ ?_
    · rw [Int.toNat_natCast, hg, htl]
      exact zza
    rw [Int.toNat_natCast, hg]
    generalize l.getD i tok0 = t at *
    have h1 := tokenFault_fn t hft.m
    repeat' first | refine zzs ?_ | refine zzb ?_ | refine zzk ?_
    refine tr_region (zzx hnt rfl ?_ (callV rfl rfl rfl rfl rfl rfl rfl hnt rfl (h1) (zzx hnt rfl ?_ (Lex.nil _)))) ?_
    · exact zza
    · exact zza
    repeat' first | refine zzs ?_ | refine zzr hnt rfl ?_ ?_ | refine zzd hnt rfl ?_ ?_ | refine zzb ?_ | refine zzk ?_
    · exact zzt
    repeat' first | refine zzs ?_ | refine zzb ?_ | refine zzk ?_
    refine tr_cond rfl (fun hc => ?_) (fun hc => ?_)
    · simp only [zz1, zz2, zz3, zz4, zz5, zz6, zz7, zz8] at hc
      have hc : ¬ tkF t = 0 := hc
      rw [if_pos hc] at hi
      rw [← hi, if_pos hc]
      repeat' first | refine zzs ?_ | refine zzr hnt rfl ?_ ?_ | refine zzd hnt rfl ?_ ?_ | refine zzb ?_ | refine zzk ?_
      · exact zzt
      exact tr_ret ⟨.inr rfl, _, _, rfl, zzp, rfl⟩
    simp only [zz1, zz2, zz3, zz4, zz5, zz6, zz7, zz8] at hc
    have hc : tkF t = 0 := hc
    rw [if_neg (not_not_intro hc)] at hi
    obtain ⟨hok, h100t⟩ := tk_ok hft hc
    have h2 := tokenText_fn t hok
    have hjl2 : (jn (l.take (i + 1))).length ≤ 101 * (i + 1) := by
      by_cases h0 : i = 0
      · rw [hj0 h0, List.length_append]
        omega
      · rw [hj1 (by omega)]
        simp only [List.length_append, List.length_cons, List.length_nil]
        omega
    repeat' first | refine zzs ?_ | refine zzb ?_ | refine zzk ?_
    refine tr_region (zzx hnt rfl ?_ (call rfl rfl rfl rfl rfl rfl rfl hnt (h2) (zzx hnt rfl ?_ (Lex.nil _)))) ?_
    · exact zza
    · exact zza
    repeat' first | refine zzs ?_ | refine zzr hnt rfl ?_ ?_ | refine zzd hnt rfl ?_ ?_ | refine zzb ?_ | refine zzk ?_
    · exact zzt
    refine ⟨i + 1, ⟨hi, hlt, hjl2⟩, by omega, le_of (ad := []) ⟨zzl, zzl, zzl, zzl, zzl, zzl, trivial⟩ (memOk_row rfl rfl (by rw [htk, List.map_append, List.map_append]; rfl) trivial)⟩
  simp only [zz1, zz2, zz3, zz4, zz5, zz6, zz7, zz8] at hc
  (try simp only [htl] at hc)
  (try simp only [zz1, zz2, zz3, zz4, zz5, zz6, zz7, zz8] at hc)
  have hi2 : i = l.length := by omega
  rw [hi2, List.drop_length] at hi
  rw [hi2, List.take_length] at hjl ⊢
  rw [if_neg (show ¬ flt l ≠ 0 from fun h => h hi.symm)]
  have hJ := Join_fn (l.map txF) (by rw [List.length_map]; omega) (by show (jn l).length ≤ _; omega)
  have hJ : FnD Tryd.prog 43 [.one (.e (.sl ((l.map txF).map fun t => [eT t]))), .one (.e (eT [32]))] (.one (.e (eT (jn l)))) := hJ
  refine tr_exit ?_
  refine tr_le (le_frz 4 rfl rfl) ?_
  repeat' first | refine zzs ?_ | refine zzb ?_ | refine zzk ?_
  refine tr_region (zzx hnt rfl ?_ (call rfl rfl rfl rfl rfl rfl rfl hnt (hJ) (zzx hnt rfl ?_ (Lex.nil _)))) ?_
  · exact zza
  · exact zza
  repeat' first | refine zzs ?_ | refine zzr hnt rfl ?_ ?_ | refine zzd hnt rfl ?_ ?_ | refine zzb ?_ | refine zzk ?_
  · exact zzt
  repeat' first | refine zzs ?_ | refine zzb ?_ | refine zzk ?_
  refine tr_cond rfl (fun hc => ?_) (fun hc => ?_)
  · have hc : 300 < (jn l).length := by
      have hc : (300 : Int) < ((strB (jn l)).size : Int) := of_decide_eq_true hc
      rw [strB_len] at hc
      omega
    rw [if_pos hc]
    repeat' first | refine zzs ?_ | refine zzr hnt rfl ?_ ?_ | refine zzd hnt rfl ?_ ?_ | refine zzb ?_ | refine zzk ?_
    · exact zzt
    exact tr_ret ⟨.inr rfl, _, _, rfl, zzp, rfl⟩
  have hc : ¬ 300 < (jn l).length := by
    have hc : ¬ (300 : Int) < ((strB (jn l)).size : Int) := of_decide_eq_false hc
    rw [strB_len] at hc
    omega
  rw [if_neg hc]
  repeat' first | refine zzs ?_ | refine zzr hnt rfl ?_ ?_ | refine zzd hnt rfl ?_ ?_ | refine zzb ?_ | refine zzk ?_
  · exact zzt
  exact tr_ret ⟨.inr rfl, _, _, rfl, zzp, rfl⟩
theorem lexShows_fn (l : List Tok) (hf : ∀ t ∈ l, t.fit) (hml : l.length ≤ maxLen) : FnK Tryd.prog KT 7 gL [.one (.e (.sl (l.map eTok)))] (.v (.bool true)) := by
  refine fn_introK (T := tab) tOk Tryd.func7 rfl (by kernel_rfl) (by simp [Tryd.ntmps7]) KT_st ?_
  intro X hX hK
  have hnt : X.nt = 25 := hX
  clear hX
  have h1 := Show_fn l hf hml
  have h2 := TextOf_fn l hf hml
  generalize shwF l = q at *
  obtain ⟨s, e⟩ := q
  repeat' first | refine zzs ?_ | refine zzb ?_ | refine zzk ?_
  first | refine zzr hnt rfl ?_ ?_ | refine zzd hnt rfl ?_ ?_
  · exact zzt
  repeat' first | refine zzs ?_ | refine zzb ?_ | refine zzk ?_
  refine tr_region (zzx hnt rfl ?_ (callK rfl rfl rfl rfl rfl rfl rfl hnt rfl hK (h1) (zzx hnt rfl ?_ (Lex.nil _)))) ?_
  · exact zzt
  · exact zzt
  repeat' first | refine zzs ?_ | refine zzb ?_ | refine zzk ?_
  refine tr_region (zzx hnt rfl ?_ (callV rfl rfl rfl rfl rfl rfl rfl hnt rfl (h2) (zzx hnt rfl ?_ (Lex.nil _)))) ?_
  · exact zzt
  · exact zzt
  repeat' first | refine zzs ?_ | refine zzr hnt rfl ?_ ?_ | refine zzd hnt rfl ?_ ?_ | refine zzb ?_ | refine zzk ?_
  · exact zzt
  refine tr_ret ⟨.inr rfl, _, _, rfl, by trivial, ?_⟩
  rw [strEq_B]
  simp
  rfl
end Go.Proofs.YthnadkafegmacaaDoor
