/- kinds.Columns, kinds.Row and the document's answers. No condition. -/
import Derived.Test.YthnadkafegmacaaGreatDoorTLexA
namespace Go.Proofs.YthnadkafegmacaaGreatDoor
open Go Go.RowKit Go.Proofs.YthnadkafegmacaaGreatDoor.Ab
set_option linter.unusedSimpArgs false
set_option linter.unusedVariables false

structure Colm where
  n : Byt
  k : Int
  u : Bool
def eBl (b : Bool) : E := .v (.bool b)
def eCol (c : Colm) : List E := [eT c.n, eI c.k, eBl c.u]
def eCols (l : List Colm) : E := .sl (l.map eCol)
def col0 : Colm := ⟨[], 0, false⟩
def val0 : Val := ⟨0, 0, 0, []⟩
theorem eCol0 (c : Colm) : ((eCol c).getD (0 + 0) E.dflt).str = strB c.n := rfl
theorem eCol1 (c : Colm) : ((eCol c).getD (0 + 1) E.dflt).int = c.k := rfl
theorem colBox (c : Colm) : List.take 0 (List.map E.v [Value.string ByteArray.empty, Value.int IntKind.i64 0, Value.bool false]) ++ List.take 3 (List.drop 0 (eCol c)) ++ List.drop (0 + 3) (List.map E.v [Value.string ByteArray.empty, Value.int IntKind.i64 0, Value.bool false]) = eCol c := rfl
theorem valBox (v : Val) : List.take 0 (List.map E.v [Value.int IntKind.i64 0, Value.int IntKind.i64 0, Value.int IntKind.u64 0, Value.string ByteArray.empty]) ++ List.take 4 (List.drop 0 (eVal v)) ++ List.drop (0 + 4) (List.map E.v [Value.int IntKind.i64 0, Value.int IntKind.i64 0, Value.int IntKind.u64 0, Value.string ByteArray.empty]) = eVal v := rfl
theorem colsGet (l : List Colm) (i : Nat) (h : i < l.length) : (l.map eCol).getD i [] = eCol (l.getD i col0) := by
  rw [List.getD_eq_getElem?_getD, List.getElem?_map, List.getElem?_eq_getElem h, List.getD_eq_getElem?_getD, List.getElem?_eq_getElem h]
  rfl
theorem colsLen (l : List Colm) : (l.map eCol).length = l.length := List.length_map ..
theorem cols3 (l : List Colm) : ∀ cs ∈ l.map eCol, cs.length = 3 := by
  intro cs h
  obtain ⟨q, _, rfl⟩ := List.mem_map.1 h
  rfl
theorem colsTake (l : List Colm) (i : Nat) : List.take (Int.toNat (i : Int) - Int.toNat 0) (List.drop (Int.toNat 0) (l.map eCol)) = (l.take i).map eCol := by simp
def nmOk (s : Byt) : Prop := isNm s = true ∧ s.length ≤ 8
instance (s : Byt) : Decidable (nmOk s) := inferInstanceAs (Decidable (_ ∧ _))
theorem tkF_name (s : Byt) : tkF ⟨1, s, 0, 0⟩ = 0 ↔ nmOk s := by
  unfold tkF nmOk okTk
  rw [isNm_eq]
  dsimp only
  rw [if_neg (by omega)]
  by_cases h : 8 < s.length
  · rw [if_pos (by omega)]
    exact iff_of_false (by decide) (by omega)
  · rw [if_neg (by omega), if_neg (by simp), if_pos rfl]
    cases isNmP s with
    | true => exact iff_of_true rfl ⟨rfl, by omega⟩
    | false => exact iff_of_false (by decide) (fun h => Bool.false_ne_true h.1)
def hasN (l : List Colm) (s : Byt) : Bool := l.any fun c => decide (c.n = s)
def clF : List Colm → List Colm → Int
  | _, [] => 0
  | d, c :: r => if ¬ nmOk c.n then 3 else if c.k < 1 ∨ 4 < c.k then 2 else if hasN d c.n = true then 8 else clF (d ++ [c]) r
def colsF (l : List Colm) : Int := if 5 < l.length then 1 else clF [] l
theorem take_succ {α : Type} {l : List α} {i : Nat} {d : α} (h : i < l.length) : l.take (i + 1) = l.take i ++ [l.getD i d] := by
  rw [List.take_add_one, List.getElem?_eq_getElem h, List.getD_eq_getElem?_getD, List.getElem?_eq_getElem h]
  rfl
set_option maxRecDepth 10000 in
set_option maxHeartbeats 2000000 in
theorem columns_fn (l : List Colm) (hn : ∀ c ∈ l, c.n.length ≤ maxLen) : FnG Tryz.prog 101 gK [.one (.e (eCols l))] (.one (.e (eI (colsF l)))) := by
  refine FnG.len ⟨_, _, Tryz.func101, rfl, by kernel_rfl⟩ 0 rfl fun hl0 => ?_
  refine fn_introG (T := tab) tOk Tryz.func101 rfl (by kernel_rfl) (by simp [Tryz.ntmps101]) ?_
  intro X hX
  have hnt : X.nt = 45 := hX
  clear hX
  have hml := colsLen l
  unfold maxLen at hl0
  unfold colsF
  repeat' first | refine zzs ?_ | refine zzr hnt rfl ?_ ?_ | refine zzd hnt rfl ?_ ?_ | refine zzb ?_ | refine zzk ?_
  · exact zzt
  · exact zzt
  repeat' first | refine zzs ?_ | refine zzb ?_ | refine zzk ?_
  refine tr_cond rfl (fun hc => ?_) (fun hc => ?_)
  · simp only [zz1, zz2, zz3, zz4, zz5, zz6, zz7, zz8] at hc
    (try simp only [hml] at hc)
    (try simp only [zz1, zz2, zz3, zz4, zz5, zz6, zz7, zz8] at hc)
    rw [if_pos (by omega)]
    repeat' first | refine zzs ?_ | refine zzr hnt rfl ?_ ?_ | refine zzd hnt rfl ?_ ?_ | refine zzb ?_ | refine zzk ?_
    · exact zzt
    exact tr_ret ⟨.inr rfl, _, _, rfl, trivial, rfl⟩
  simp only [zz1, zz2, zz3, zz4, zz5, zz6, zz7, zz8] at hc
  (try simp only [hml] at hc)
  (try simp only [zz1, zz2, zz3, zz4, zz5, zz6, zz7, zz8] at hc)
  rw [if_neg (by omega)]
  repeat' first | refine zzs ?_ | refine zzr hnt rfl ?_ ?_ | refine zzd hnt rfl ?_ ?_ | refine zzb ?_ | refine zzk ?_
  · exact zzt
  repeat' first | refine zzs ?_ | refine zzb ?_ | refine zzk ?_
  refine tr_loop (σ := Nat) (fun i => St.of [(0, .one (.e (eCols l))), (10, .one (.e (eCols l))), (11, .one (.e (eI ((l.map eCol).length : Int)))), (12, .one (.e (eI (i : Int)))), ((1000000 + 5), .one (.eptr fsE)), ((1000000 + 6), .one (.eptr acE))] []) (fun i => clF (l.take i) (l.drop i) = clF [] l ∧ i ≤ l.length) (fun i => l.length - i) (0) (le_of (ad := []) ⟨zzl, zzl, zzl, zzl, zzl, zzl, trivial⟩ trivial) ⟨rfl, Nat.zero_le _⟩ ?_
  rintro i ⟨hi, il⟩
  repeat' first | refine zzs ?_ | refine zzr hnt rfl ?_ ?_ | refine zzd hnt rfl ?_ ?_ | refine zzb ?_ | refine zzk ?_
  · exact zzt
  repeat' first | refine zzs ?_ | refine zzb ?_ | refine zzk ?_
  refine tr_cond rfl (fun hc => ?_) (fun hc => ?_)
  · simp only [zz1, zz2, zz3, zz4, zz5, zz6, zz7, zz8] at hc
    (try simp only [hml] at hc)
    (try simp only [zz1, zz2, zz3, zz4, zz5, zz6, zz7, zz8] at hc)
    have hlt : i < l.length := by omega
    have hts := take_succ (d := col0) hlt
    rw [drop_getD (d := col0) hlt, clF, ← hts] at hi
    have hg := colsGet l i hlt
    repeat' first | refine zzs ?_ | refine zzb ?_ | refine zzk ?_
    first | refine zzr hnt rfl ?_ ?_ | refine zzd hnt rfl ?_ ?_
    · rw [Int.toNat_natCast, hg, hml]
      exact zza
    rw [Int.toNat_natCast, hg]
    have hmem : l.getD i col0 ∈ l := by
      rw [List.getD_eq_getElem?_getD, List.getElem?_eq_getElem hlt]
      exact List.getElem_mem hlt
    have hf := lexCheck_fn ⟨1, (l.getD i col0).n, 0, 0⟩ (hn _ hmem)
    have hnm := tkF_name (l.getD i col0).n
    generalize l.getD i col0 = c at *
    rw [colBox]
    repeat' first | refine zzs ?_ | refine zzb ?_ | refine zzk ?_
    refine tr_region (zzx hnt rfl ?_ (callV rfl rfl rfl rfl rfl rfl rfl hnt rfl (hf) (zzx hnt rfl ?_ (Lex.nil _)))) ?_
    · exact zzt
    · exact zzt
    repeat' first | refine zzs ?_ | refine zzb ?_ | refine zzk ?_
    refine tr_cond rfl (fun hc => ?_) (fun hc => ?_)
    · simp only [zz1, zz2, zz3, zz4, zz5, zz6, zz7, zz8] at hc
      rw [if_pos (fun h => hc (hnm.2 h))] at hi
      rw [← hi]
      repeat' first | refine zzs ?_ | refine zzr hnt rfl ?_ ?_ | refine zzd hnt rfl ?_ ?_ | refine zzb ?_ | refine zzk ?_
      · exact zzt
      exact tr_ret ⟨.inr rfl, _, _, rfl, trivial, rfl⟩
    simp only [zz1, zz2, zz3, zz4, zz5, zz6, zz7, zz8] at hc
    rw [if_neg (not_not_intro (hnm.1 hc))] at hi
    clear hf hnm
    repeat' first | refine zzs ?_ | refine zzb ?_ | refine zzk ?_
    first | refine zzr hnt rfl ?_ ?_ | refine zzd hnt rfl ?_ ?_
    · exact zza
    repeat' first | refine zzs ?_ | refine zzb ?_ | refine zzk ?_
    refine tr_cond rfl (fun hc => ?_) (fun hc => ?_)
    · simp only [zz1, zz2, zz3, zz4, zz5, zz6, zz7, zz8] at hc
      (try simp only [eCol1] at hc)
      (try simp only [zz1, zz2, zz3, zz4, zz5, zz6, zz7, zz8] at hc)
      rw [if_pos (by omega)] at hi
      rw [← hi]
      repeat' first | refine zzs ?_ | refine zzr hnt rfl ?_ ?_ | refine zzd hnt rfl ?_ ?_ | refine zzb ?_ | refine zzk ?_
      · exact zzt
      exact tr_ret ⟨.inr rfl, _, _, rfl, trivial, rfl⟩
    simp only [zz1, zz2, zz3, zz4, zz5, zz6, zz7, zz8] at hc
    (try simp only [eCol1] at hc)
    (try simp only [zz1, zz2, zz3, zz4, zz5, zz6, zz7, zz8] at hc)
    rw [if_neg (by omega)] at hi
    repeat' first | refine zzs ?_ | refine zzb ?_ | refine zzk ?_
    first | refine zzr hnt rfl ?_ ?_ | refine zzd hnt rfl ?_ ?_
    · rw [hml]
      have e3 := cols3 l
      exact zza
    rw [colsTake]
    repeat' first | refine zzs ?_ | refine zzb ?_ | refine zzk ?_
    refine tr_loop (σ := Nat) (fun j => St.of [(0, .one (.e (eCols l))), (4, .one (.ptr 4 0 0)), (10, .one (.e (eCols l))), (11, .one (.e (eI ((l.map eCol).length : Int)))), (12, .one (.e (eI (i : Int)))), (32, .one (.e (eCols (l.take i)))), (33, .one (.e (eI (((l.take i).map eCol).length : Int)))), (34, .one (.e (eI (j : Int)))), ((1000000 + 5), .one (.eptr fsE)), ((1000000 + 6), .one (.eptr acE))] [(4, ⟨0, .box (.es (eCol c)), 0⟩)]) (fun j => hasN ((l.take i).drop j) c.n = hasN (l.take i) c.n ∧ j ≤ (l.take i).length) (fun j => (l.take i).length - j) (0) (le_of (ad := []) ⟨zzl, zzl, zzl, zzl, zzl, zzl, zzl, zzl, zzl, zzl, trivial⟩ (memOk_box rfl rfl rfl trivial)) ⟨rfl, Nat.zero_le _⟩ ?_
    rintro j ⟨hj, jl⟩
    have hml2 := colsLen (l.take i)
    have hl2 : (l.take i).length = i := by rw [List.length_take]; omega
    repeat' first | refine zzs ?_ | refine zzr hnt rfl ?_ ?_ | refine zzd hnt rfl ?_ ?_ | refine zzb ?_ | refine zzk ?_
    · exact zzt
    repeat' first | refine zzs ?_ | refine zzb ?_ | refine zzk ?_
    refine tr_cond rfl (fun hc => ?_) (fun hc => ?_)
    · simp only [zz1, zz2, zz3, zz4, zz5, zz6, zz7, zz8] at hc
      (try simp only [hml2] at hc)
      (try simp only [zz1, zz2, zz3, zz4, zz5, zz6, zz7, zz8] at hc)
      have hjt : j < (l.take i).length := by omega
      unfold hasN at hj
      rw [drop_getD (d := col0) hjt, List.any_cons] at hj
      have hg2 := colsGet (l.take i) j hjt
      repeat' first | refine zzs ?_ | refine zzb ?_ | refine zzk ?_
      first | refine zzr hnt rfl ?_ ?_ | refine zzd hnt rfl ?_ ?_
      · rw [Int.toNat_natCast, hg2, hml2]
        exact zza
      rw [Int.toNat_natCast, hg2]
      generalize (l.take i).getD j col0 = d at *
      rw [colBox]
      repeat' first | refine zzs ?_ | refine zzb ?_ | refine zzk ?_
      first | refine zzr hnt rfl ?_ ?_ | refine zzd hnt rfl ?_ ?_
      · exact zzt
      rw [eCol0, eCol0, strEq_B]
      repeat' first | refine zzs ?_ | refine zzb ?_ | refine zzk ?_
      refine tr_cond rfl (fun hc => ?_) (fun hc => ?_)
      · simp only [zz1, zz2, zz3, zz4, zz5, zz6, zz7, zz8] at hc
        rw [decide_eq_true hc, Bool.true_or] at hj
        have hj : hasN (l.take i) c.n = true := hj.symm
        rw [if_pos hj] at hi
        rw [← hi]
        repeat' first | refine zzs ?_ | refine zzr hnt rfl ?_ ?_ | refine zzd hnt rfl ?_ ?_ | refine zzb ?_ | refine zzk ?_
        · exact zzt
        exact tr_ret ⟨.inr rfl, _, _, rfl, trivial, rfl⟩
      simp only [zz1, zz2, zz3, zz4, zz5, zz6, zz7, zz8] at hc
      rw [decide_eq_false hc, Bool.false_or] at hj
      repeat' first | refine zzs ?_ | refine zzr hnt rfl ?_ ?_ | refine zzd hnt rfl ?_ ?_ | refine zzb ?_ | refine zzk ?_
      · exact zzt
      refine ⟨j + 1, ⟨hj, by omega⟩, by omega, le_of (ad := []) ⟨zzl, zzl, zzl, zzl, zzl, zzl, zzl, zzl, zzl, zzl, trivial⟩ (memOk_box rfl rfl rfl trivial)⟩
    simp only [zz1, zz2, zz3, zz4, zz5, zz6, zz7, zz8] at hc
    (try simp only [hml2] at hc)
    (try simp only [zz1, zz2, zz3, zz4, zz5, zz6, zz7, zz8] at hc)
    refine tr_exit ?_
    rw [List.drop_eq_nil_of_le (by omega)] at hj
    rw [if_neg (by rw [← hj]; exact Bool.false_ne_true)] at hi
    repeat' first | refine zzs ?_ | refine zzr hnt rfl ?_ ?_ | refine zzd hnt rfl ?_ ?_ | refine zzb ?_ | refine zzk ?_
    · exact zzt
    refine ⟨i + 1, ⟨hi, by omega⟩, by omega, le_of (ad := []) ⟨zzl, zzl, zzl, zzl, zzl, zzl, trivial⟩ trivial⟩
  simp only [zz1, zz2, zz3, zz4, zz5, zz6, zz7, zz8] at hc
  (try simp only [hml] at hc)
  (try simp only [zz1, zz2, zz3, zz4, zz5, zz6, zz7, zz8] at hc)
  refine tr_exit ?_
  rw [← hi, List.drop_eq_nil_of_le (by omega)]
  repeat' first | refine zzs ?_ | refine zzr hnt rfl ?_ ?_ | refine zzd hnt rfl ?_ ?_ | refine zzb ?_ | refine zzk ?_
  · exact zzt
  exact tr_ret ⟨.inr rfl, _, _, rfl, trivial, rfl⟩
def colAtN (l : List Colm) (s : Byt) : Nat → Int
  | 0 => -1
  | i + 1 => if (l.getD i col0).n = s then (i : Int) else colAtN l s i
def colAt (l : List Colm) (s : Byt) : Int := colAtN l s l.length
theorem colAtN_rng (l : List Colm) (s : Byt) : ∀ i, -1 ≤ colAtN l s i ∧ colAtN l s i < i
  | 0 => by rw [colAtN]; omega
  | i + 1 => by
    have := colAtN_rng l s i
    rw [colAtN]
    split <;> omega
theorem colAtN_has (l : List Colm) (s : Byt) : ∀ i, i ≤ l.length → (0 ≤ colAtN l s i ↔ hasN (l.take i) s = true)
  | 0, _ => by rw [colAtN]; exact iff_of_false (by decide) Bool.false_ne_true
  | i + 1, h => by
    have ih := colAtN_has l s i (by omega)
    rw [colAtN, take_succ (d := col0) (by omega), hasN, List.any_append, Bool.or_eq_true]
    split
    · rename_i he
      exact iff_of_true (by omega) (.inr (by rw [List.any_cons, decide_eq_true he]; rfl))
    · rename_i he
      rw [ih, hasN, List.any_cons, decide_eq_false he]
      simp
set_option maxRecDepth 10000 in
set_option maxHeartbeats 2000000 in
theorem columnAt_fn (l : List Colm) (s : Byt) : FnD Tryz.prog 45 [.one (.e (eCols l)), .one (.e (eT s))] (.one (.e (eI (colAt l s)))) := by
  refine FnD.len ⟨_, _, Tryz.func45, rfl, by kernel_rfl⟩ 0 rfl fun hl0 => ?_
  refine fn_intro (T := tab) tOk Tryz.func45 rfl (by kernel_rfl) (by simp [Tryz.ntmps45]) ?_
  intro X hX
  have hnt : X.nt = 21 := hX
  clear hX
  have hml := colsLen l
  unfold maxLen at hl0
  unfold colAt
  repeat' first | refine zzs ?_ | refine zzr hnt rfl ?_ ?_ | refine zzd hnt rfl ?_ ?_ | refine zzb ?_ | refine zzk ?_
  · exact zzt
  · exact zzt
  rw [hml]
  repeat' first | refine zzs ?_ | refine zzb ?_ | refine zzk ?_
  refine tr_loop (σ := Nat) (fun i => St.of [(0, .one (.e (eCols l))), (1, .one (.e (eT s))), (5, .one (.e (eI ((i : Int) - 1))))] []) (fun i => colAtN l s i = colAtN l s l.length ∧ i ≤ l.length) (fun i => i) (l.length) (le_of (ad := []) ⟨zzl, zzl, zzl, trivial⟩ trivial) ⟨rfl, Nat.le_refl _⟩ ?_
  rintro i ⟨hi, il⟩
  repeat' first | refine zzs ?_ | refine zzr hnt rfl ?_ ?_ | refine zzd hnt rfl ?_ ?_ | refine zzb ?_ | refine zzk ?_
  · exact zzt
  repeat' first | refine zzs ?_ | refine zzb ?_ | refine zzk ?_
  refine tr_cond rfl (fun hc => ?_) (fun hc => ?_)
  · simp only [zz1, zz2, zz3, zz4, zz5, zz6, zz7, zz8] at hc
    obtain ⟨k, rfl⟩ : ∃ k, i = k + 1 := ⟨i - 1, by omega⟩
    have hlt : k < l.length := by omega
    have e1 : ((k + 1 : Nat) : Int) - 1 = (k : Int) := by omega
    have hg := colsGet l k hlt
    rw [colAtN] at hi
    rw [e1]
    repeat' first | refine zzs ?_ | refine zzb ?_ | refine zzk ?_
    first | refine zzr hnt rfl ?_ ?_ | refine zzd hnt rfl ?_ ?_
    · rw [Int.toNat_natCast, hg, hml]
      exact zza
    rw [Int.toNat_natCast, hg]
    generalize l.getD k col0 = d at *
    repeat' first | refine zzs ?_ | refine zzb ?_ | refine zzk ?_
    refine tr_cond rfl (fun hc => ?_) (fun hc => ?_)
    · have hc : strEq (strB d.n) (strB s) = true := hc
      rw [strEq_B] at hc
      simp only [zz1, zz2, zz3, zz4, zz5, zz6, zz7, zz8] at hc
      rw [if_pos hc] at hi
      rw [← hi]
      repeat' first | refine zzs ?_ | refine zzr hnt rfl ?_ ?_ | refine zzd hnt rfl ?_ ?_ | refine zzb ?_ | refine zzk ?_
      · exact zzt
      exact tr_ret ⟨.inr rfl, _, _, rfl, trivial, rfl⟩
    have hc : strEq (strB d.n) (strB s) = false := hc
    rw [strEq_B] at hc
    simp only [zz1, zz2, zz3, zz4, zz5, zz6, zz7, zz8] at hc
    rw [if_neg hc] at hi
    repeat' first | refine zzs ?_ | refine zzr hnt rfl ?_ ?_ | refine zzd hnt rfl ?_ ?_ | refine zzb ?_ | refine zzk ?_
    · exact zzt
    refine ⟨k, ⟨hi, by omega⟩, by omega, le_of (ad := []) ⟨zzl, zzl, zzl, trivial⟩ trivial⟩
  simp only [zz1, zz2, zz3, zz4, zz5, zz6, zz7, zz8] at hc
  refine tr_exit ?_
  obtain rfl : i = 0 := by omega
  rw [← hi]
  repeat' first | refine zzs ?_ | refine zzr hnt rfl ?_ ?_ | refine zzd hnt rfl ?_ ?_ | refine zzb ?_ | refine zzk ?_
  · exact zzt
  exact tr_ret ⟨.inr rfl, _, _, rfl, trivial, rfl⟩
set_option maxRecDepth 10000 in
set_option maxHeartbeats 2000000 in
theorem columnsFault_fn (l : List Colm) (hn : ∀ c ∈ l, c.n.length ≤ maxLen) : FnD Tryz.prog 106 [.one (.e (eCols l))] (.one (.e (eI (colsF l)))) := by
  refine FnD.len ⟨_, _, Tryz.func106, rfl, by kernel_rfl⟩ 0 rfl fun hl0 => ?_
  refine fn_intro (T := tab) tOk Tryz.func106 rfl (by kernel_rfl) (by simp [Tryz.ntmps106]) ?_
  intro X hX
  have hnt : X.nt = 54 := hX
  clear hX
  have hml := colsLen l
  unfold maxLen at hl0
  unfold colsF
  repeat' first | refine zzs ?_ | refine zzr hnt rfl ?_ ?_ | refine zzd hnt rfl ?_ ?_ | refine zzb ?_ | refine zzk ?_
  · exact zzt
  · exact zzt
  repeat' first | refine zzs ?_ | refine zzb ?_ | refine zzk ?_
  refine tr_cond rfl (fun hc => ?_) (fun hc => ?_)
  · simp only [zz1, zz2, zz3, zz4, zz5, zz6, zz7, zz8] at hc
    (try simp only [hml] at hc)
    (try simp only [zz1, zz2, zz3, zz4, zz5, zz6, zz7, zz8] at hc)
    rw [if_pos (by omega)]
    repeat' first | refine zzs ?_ | refine zzr hnt rfl ?_ ?_ | refine zzd hnt rfl ?_ ?_ | refine zzb ?_ | refine zzk ?_
    · exact zzt
    exact tr_ret ⟨.inr rfl, _, _, rfl, trivial, rfl⟩
  simp only [zz1, zz2, zz3, zz4, zz5, zz6, zz7, zz8] at hc
  (try simp only [hml] at hc)
  (try simp only [zz1, zz2, zz3, zz4, zz5, zz6, zz7, zz8] at hc)
  rw [if_neg (by omega)]
  repeat' first | refine zzs ?_ | refine zzr hnt rfl ?_ ?_ | refine zzd hnt rfl ?_ ?_ | refine zzb ?_ | refine zzk ?_
  · exact zzt
  repeat' first | refine zzs ?_ | refine zzb ?_ | refine zzk ?_
  refine tr_loop (σ := Nat) (fun i => St.of [(0, .one (.e (eCols l))), (8, .one (.e (eCols l))), (9, .one (.e (eI ((l.map eCol).length : Int)))), (10, .one (.e (eI (i : Int))))] []) (fun i => clF (l.take i) (l.drop i) = clF [] l ∧ i ≤ l.length) (fun i => l.length - i) (0) (le_of (ad := []) ⟨zzl, zzl, zzl, zzl, trivial⟩ trivial) ⟨rfl, Nat.zero_le _⟩ ?_
  rintro i ⟨hi, il⟩
  repeat' first | refine zzs ?_ | refine zzr hnt rfl ?_ ?_ | refine zzd hnt rfl ?_ ?_ | refine zzb ?_ | refine zzk ?_
  · exact zzt
  repeat' first | refine zzs ?_ | refine zzb ?_ | refine zzk ?_
  refine tr_cond rfl (fun hc => ?_) (fun hc => ?_)
  · simp only [zz1, zz2, zz3, zz4, zz5, zz6, zz7, zz8] at hc
    (try simp only [hml] at hc)
    (try simp only [zz1, zz2, zz3, zz4, zz5, zz6, zz7, zz8] at hc)
    have hlt : i < l.length := by omega
    have hts := take_succ (d := col0) hlt
    rw [drop_getD (d := col0) hlt, clF, ← hts] at hi
    have hg := colsGet l i hlt
    repeat' first | refine zzs ?_ | refine zzb ?_ | refine zzk ?_
    first | refine zzr hnt rfl ?_ ?_ | refine zzd hnt rfl ?_ ?_
    · rw [Int.toNat_natCast, hg, hml]
      exact zza
    rw [Int.toNat_natCast, hg]
    have hmem : l.getD i col0 ∈ l := by
      rw [List.getD_eq_getElem?_getD, List.getElem?_eq_getElem hlt]
      exact List.getElem_mem hlt
    have hnl := hn _ hmem
    generalize l.getD i col0 = c at *
    rw [colBox]
    have lc : (strB c.n).size = c.n.length := strB_size c.n
    repeat' first | refine zzs ?_ | refine zzb ?_ | refine zzk ?_
    refine tr_region (zzx hnt rfl ?_ (call rfl rfl rfl rfl rfl rfl rfl hnt (isName_fn c.n hnl) (zzx hnt rfl ?_ (Lex.nil _)))) ?_
    · exact zzt
    · exact zzt
    repeat' first | refine zzs ?_ | refine zzb ?_ | refine zzk ?_
    refine tr_cond rfl (fun hc => ?_) (fun hc => ?_)
    · simp only [zz1, zz2, zz3, zz4, zz5, zz6, zz7, zz8] at hc
      (try simp only [eCol0, lc] at hc)
      (try simp only [zz1, zz2, zz3, zz4, zz5, zz6, zz7, zz8] at hc)
      rw [if_pos (fun h => by rcases hc with hc | hc; exact Bool.false_ne_true (hc.symm.trans h.1); exact absurd h.2 (by omega))] at hi
      rw [← hi]
      repeat' first | refine zzs ?_ | refine zzr hnt rfl ?_ ?_ | refine zzd hnt rfl ?_ ?_ | refine zzb ?_ | refine zzk ?_
      · exact zzt
      exact tr_ret ⟨.inr rfl, _, _, rfl, trivial, rfl⟩
    simp only [zz1, zz2, zz3, zz4, zz5, zz6, zz7, zz8] at hc
    (try simp only [eCol0, lc] at hc)
    (try simp only [zz1, zz2, zz3, zz4, zz5, zz6, zz7, zz8] at hc)
    rw [if_neg (not_not_intro ⟨hc.1, by omega⟩)] at hi
    repeat' first | refine zzs ?_ | refine zzb ?_ | refine zzk ?_
    first | refine zzr hnt rfl ?_ ?_ | refine zzd hnt rfl ?_ ?_
    · exact zza
    repeat' first | refine zzs ?_ | refine zzb ?_ | refine zzk ?_
    refine tr_cond rfl (fun hc => ?_) (fun hc => ?_)
    · simp only [zz1, zz2, zz3, zz4, zz5, zz6, zz7, zz8] at hc
      (try simp only [eCol1] at hc)
      (try simp only [zz1, zz2, zz3, zz4, zz5, zz6, zz7, zz8] at hc)
      rw [if_pos (by omega)] at hi
      rw [← hi]
      repeat' first | refine zzs ?_ | refine zzr hnt rfl ?_ ?_ | refine zzd hnt rfl ?_ ?_ | refine zzb ?_ | refine zzk ?_
      · exact zzt
      exact tr_ret ⟨.inr rfl, _, _, rfl, trivial, rfl⟩
    simp only [zz1, zz2, zz3, zz4, zz5, zz6, zz7, zz8] at hc
    (try simp only [eCol1] at hc)
    (try simp only [zz1, zz2, zz3, zz4, zz5, zz6, zz7, zz8] at hc)
    rw [if_neg (by omega)] at hi
    have e3 := cols3 l
    have hcf := columnAt_fn (l.take i) c.n
    unfold eCols at hcf
    rw [← colsTake] at hcf
    have hcn := colAtN_has l c.n i il
    have hca : colAt (l.take i) c.n = colAtN l c.n i := by
      have : ∀ k, k ≤ i → colAtN (l.take i) c.n k = colAtN l c.n k := by
        intro k
        induction k with
        | zero => intro _; rfl
        | succ k ih =>
          intro hk
          rw [colAtN, colAtN, ih (by omega)]
          have : (l.take i).getD k col0 = l.getD k col0 := by
            rw [List.getD_eq_getElem?_getD, List.getElem?_take_of_lt (by omega), List.getD_eq_getElem?_getD]
          rw [this]
      unfold colAt
      rw [show (l.take i).length = i by rw [List.length_take]; omega]
      exact this i (Nat.le_refl _)
    rw [hca] at hcf
    generalize colAtN l c.n i = p at *
    repeat' first | refine zzs ?_ | refine zzb ?_ | refine zzk ?_
    refine tr_draw (T := tab) tOk hnt mixedR (lexD (T := tab) rfl ?_ (callD rfl rfl rfl rfl rfl rfl rfl rfl (hcf) (lexD (T := tab) rfl ?_ (.nil _)))) (by decide +kernel) ?_
    · rw [hml]
      exact zza
    · exact zzt
    repeat' first | refine zzs ?_ | refine zzb ?_ | refine zzk ?_
    refine tr_cond rfl (fun hc => ?_) (fun hc => ?_)
    · simp only [zz1, zz2, zz3, zz4, zz5, zz6, zz7, zz8] at hc
      rw [if_pos (hcn.1 hc)] at hi
      rw [← hi]
      repeat' first | refine zzs ?_ | refine zzr hnt rfl ?_ ?_ | refine zzd hnt rfl ?_ ?_ | refine zzb ?_ | refine zzk ?_
      · exact zzt
      exact tr_ret ⟨.inr rfl, _, _, rfl, trivial, rfl⟩
    simp only [zz1, zz2, zz3, zz4, zz5, zz6, zz7, zz8] at hc
    rw [if_neg (fun h => hc (hcn.2 h))] at hi
    repeat' first | refine zzs ?_ | refine zzr hnt rfl ?_ ?_ | refine zzd hnt rfl ?_ ?_ | refine zzb ?_ | refine zzk ?_
    · exact zzt
    refine ⟨i + 1, ⟨hi, by omega⟩, by omega, le_of (ad := []) ⟨zzl, zzl, zzl, zzl, trivial⟩ trivial⟩
  simp only [zz1, zz2, zz3, zz4, zz5, zz6, zz7, zz8] at hc
  (try simp only [hml] at hc)
  (try simp only [zz1, zz2, zz3, zz4, zz5, zz6, zz7, zz8] at hc)
  refine tr_exit ?_
  rw [← hi, List.drop_eq_nil_of_le (by omega)]
  repeat' first | refine zzs ?_ | refine zzr hnt rfl ?_ ?_ | refine zzd hnt rfl ?_ ?_ | refine zzb ?_ | refine zzk ?_
  · exact zzt
  exact tr_ret ⟨.inr rfl, _, _, rfl, trivial, rfl⟩
end Go.Proofs.YthnadkafegmacaaGreatDoor
namespace Go.Proofs.YthnadkafegmacaaGreatDoor
open Go Go.RowKit Go.Proofs.YthnadkafegmacaaGreatDoor.Ab
set_option linter.unusedSimpArgs false
set_option linter.unusedVariables false

def rwF : List Val → List Colm → Int
  | v :: r, c :: l => if chk v ≠ 0 then chk v else if v.k = 0 then (if c.u = false then 12 else rwF r l) else if v.k ≠ c.k then 2 else rwF r l
  | _, _ => 0
theorem rwF_nil (l : List Colm) : rwF [] l = 0 := by cases l <;> rfl
def rowF (r : List Val) (l : List Colm) : Int := if colsF l ≠ 0 then colsF l else if r.length ≠ l.length then 1 else rwF r l
theorem rowLen (r : List Val) : (r.map eVal).length = r.length := List.length_map ..
set_option maxRecDepth 10000 in
set_option maxHeartbeats 2000000 in
theorem fits_fn (r : List Val) (l : List Colm) (hn : ∀ c ∈ l, c.n.length ≤ maxLen) (hv : ∀ v ∈ r, v.ok) : FnG Tryz.prog 178 gK [.one (.e (eRow r)), .one (.e (eCols l))] (.one (.e (eI (rowF r l)))) := by
  refine FnG.len ⟨_, _, Tryz.func178, rfl, by kernel_rfl⟩ 0 rfl fun hl0 => ?_
  refine fn_introG (T := tab) tOk Tryz.func178 rfl (by kernel_rfl) (by simp [Tryz.ntmps178]) ?_
  intro X hX
  have hnt : X.nt = 58 := hX
  clear hX
  have h1 := columns_fn l hn
  have hml := colsLen l
  have hmr := rowLen r
  unfold maxLen at hl0
  unfold rowF
  generalize colsF l = e at *
  repeat' first | refine zzs ?_ | refine zzr hnt rfl ?_ ?_ | refine zzd hnt rfl ?_ ?_ | refine zzb ?_ | refine zzk ?_
  · exact zzt
  repeat' first | refine zzs ?_ | refine zzb ?_ | refine zzk ?_
  refine tr_region (zzx hnt rfl ?_ (callV rfl rfl rfl rfl rfl rfl rfl hnt rfl (h1) (zzx hnt rfl ?_ (Lex.nil _)))) ?_
  · exact zzt
  · exact zzt
  repeat' first | refine zzs ?_ | refine zzr hnt rfl ?_ ?_ | refine zzd hnt rfl ?_ ?_ | refine zzb ?_ | refine zzk ?_
  · exact zzt
  repeat' first | refine zzs ?_ | refine zzb ?_ | refine zzk ?_
  refine tr_cond rfl (fun hc => ?_) (fun hc => ?_)
  · simp only [zz1, zz2, zz3, zz4, zz5, zz6, zz7, zz8] at hc
    rw [if_pos hc]
    repeat' first | refine zzs ?_ | refine zzr hnt rfl ?_ ?_ | refine zzd hnt rfl ?_ ?_ | refine zzb ?_ | refine zzk ?_
    · exact zzt
    exact tr_ret ⟨.inr rfl, _, _, rfl, trivial, rfl⟩
  simp only [zz1, zz2, zz3, zz4, zz5, zz6, zz7, zz8] at hc
  rw [if_neg (not_not_intro hc)]
  repeat' first | refine zzs ?_ | refine zzr hnt rfl ?_ ?_ | refine zzd hnt rfl ?_ ?_ | refine zzb ?_ | refine zzk ?_
  · exact zzt
  repeat' first | refine zzs ?_ | refine zzb ?_ | refine zzk ?_
  refine tr_cond rfl (fun hc => ?_) (fun hc => ?_)
  · simp only [zz1, zz2, zz3, zz4, zz5, zz6, zz7, zz8] at hc
    (try simp only [hml, hmr] at hc)
    (try simp only [zz1, zz2, zz3, zz4, zz5, zz6, zz7, zz8] at hc)
    rw [if_pos (by omega)]
    repeat' first | refine zzs ?_ | refine zzr hnt rfl ?_ ?_ | refine zzd hnt rfl ?_ ?_ | refine zzb ?_ | refine zzk ?_
    · exact zzt
    exact tr_ret ⟨.inr rfl, _, _, rfl, trivial, rfl⟩
  simp only [zz1, zz2, zz3, zz4, zz5, zz6, zz7, zz8] at hc
  (try simp only [hml, hmr] at hc)
  (try simp only [zz1, zz2, zz3, zz4, zz5, zz6, zz7, zz8] at hc)
  have hrl : r.length = l.length := by omega
  rw [if_neg (not_not_intro hrl)]
  repeat' first | refine zzs ?_ | refine zzr hnt rfl ?_ ?_ | refine zzd hnt rfl ?_ ?_ | refine zzb ?_ | refine zzk ?_
  · exact zzt
  repeat' first | refine zzs ?_ | refine zzb ?_ | refine zzk ?_
  refine tr_loop (σ := Nat) (fun i => St.of [(1, .one (.e (eCols l))), (19, .one (.e (eRow r))), (20, .one (.e (eI ((r.map eVal).length : Int)))), (21, .one (.e (eI (i : Int)))), ((1000000 + 5), .one (.eptr fsE)), ((1000000 + 6), .one (.eptr acE))] []) (fun i => rwF (r.drop i) (l.drop i) = rwF r l ∧ i ≤ r.length) (fun i => r.length - i) (0) (le_of (ad := []) ⟨zzl, zzl, zzl, zzl, zzl, zzl, trivial⟩ trivial) ⟨rfl, Nat.zero_le _⟩ ?_
  rintro i ⟨hi, il⟩
  repeat' first | refine zzs ?_ | refine zzr hnt rfl ?_ ?_ | refine zzd hnt rfl ?_ ?_ | refine zzb ?_ | refine zzk ?_
  · exact zzt
  repeat' first | refine zzs ?_ | refine zzb ?_ | refine zzk ?_
  refine tr_cond rfl (fun hc => ?_) (fun hc => ?_)
  · simp only [zz1, zz2, zz3, zz4, zz5, zz6, zz7, zz8] at hc
    (try simp only [hmr] at hc)
    (try simp only [zz1, zz2, zz3, zz4, zz5, zz6, zz7, zz8] at hc)
    have hlt : i < r.length := by omega
    have hlt2 : i < l.length := by omega
    rw [drop_getD (d := val0) hlt, drop_getD (d := col0) hlt2, rwF] at hi
    have hg := rowGet r i hlt
    have hg2 := colsGet l i hlt2
    have hg3 : ((l.map eCol).getD i []).length = 3 := by rw [hg2]; rfl
    repeat' first | refine zzs ?_ | refine zzb ?_ | refine zzk ?_
    first | refine zzr hnt rfl ?_ ?_ | refine zzd hnt rfl ?_ ?_
    · rw [Int.toNat_natCast, hg, hmr]
      exact zza
    rw [Int.toNat_natCast, hg]
    have hmem : r.getD i val0 ∈ r := by
      rw [List.getD_eq_getElem?_getD, List.getElem?_eq_getElem hlt]
      exact List.getElem_mem hlt
    have hok := hv _ hmem
    have hmem2 : l.getD i col0 ∈ l := by
      rw [List.getD_eq_getElem?_getD, List.getElem?_eq_getElem hlt2]
      exact List.getElem_mem hlt2
    change _ = rwF r l at hi
    rw [show r.getD i ⟨0, 0, 0, []⟩ = r.getD i val0 from rfl]
    generalize r.getD i val0 = v at *
    generalize l.getD i col0 = c at *
    rw [valBox]
    have hf := check_fn v
    generalize chk v = e at *
    repeat' first | refine zzs ?_ | refine zzb ?_ | refine zzk ?_
    refine tr_region (zzx hnt rfl ?_ (callV rfl rfl rfl rfl rfl rfl rfl hnt rfl (hf) (zzx hnt rfl ?_ (Lex.nil _)))) ?_
    · exact zzt
    · exact zzt
    repeat' first | refine zzs ?_ | refine zzr hnt rfl ?_ ?_ | refine zzd hnt rfl ?_ ?_ | refine zzb ?_ | refine zzk ?_
    · exact zzt
    repeat' first | refine zzs ?_ | refine zzb ?_ | refine zzk ?_
    refine tr_cond rfl (fun hc => ?_) (fun hc => ?_)
    · simp only [zz1, zz2, zz3, zz4, zz5, zz6, zz7, zz8] at hc
      rw [if_pos hc] at hi
      rw [← hi]
      repeat' first | refine zzs ?_ | refine zzr hnt rfl ?_ ?_ | refine zzd hnt rfl ?_ ?_ | refine zzb ?_ | refine zzk ?_
      · exact zzt
      exact tr_ret ⟨.inr rfl, _, _, rfl, trivial, rfl⟩
    simp only [zz1, zz2, zz3, zz4, zz5, zz6, zz7, zz8] at hc
    rw [if_neg (not_not_intro hc)] at hi
    repeat' first | refine zzs ?_ | refine zzb ?_ | refine zzk ?_
    first | refine zzr hnt rfl ?_ ?_ | refine zzd hnt rfl ?_ ?_
    · rw [Int.toNat_natCast, hg2, hml]
      exact zza
    rw [Int.toNat_natCast, hg2]
    repeat' first | refine zzs ?_ | refine zzb ?_ | refine zzk ?_
    refine tr_cond rfl (fun hc => ?_) (fun hc => ?_)
    · simp only [zz1, zz2, zz3, zz4, zz5, zz6, zz7, zz8] at hc
      (try simp only [eVal0] at hc)
      (try simp only [zz1, zz2, zz3, zz4, zz5, zz6, zz7, zz8] at hc)
      have hu : c.u = false := hc.2
      rw [if_pos hc.1, if_pos hu] at hi
      rw [← hi]
      repeat' first | refine zzs ?_ | refine zzr hnt rfl ?_ ?_ | refine zzd hnt rfl ?_ ?_ | refine zzb ?_ | refine zzk ?_
      · exact zzt
      exact tr_ret ⟨.inr rfl, _, _, rfl, trivial, rfl⟩
    simp only [zz1, zz2, zz3, zz4, zz5, zz6, zz7, zz8] at hc
    (try simp only [eVal0] at hc)
    (try simp only [zz1, zz2, zz3, zz4, zz5, zz6, zz7, zz8] at hc)
    have hc1 : ¬ v.k = 0 ∨ c.u = true := hc
    repeat' first | refine zzs ?_ | refine zzb ?_ | refine zzk ?_
    first | refine zzr hnt rfl ?_ ?_ | refine zzd hnt rfl ?_ ?_
    · rw [Int.toNat_natCast, hg2, hml]
      exact zza
    rw [Int.toNat_natCast, hg2]
    repeat' first | refine zzs ?_ | refine zzb ?_ | refine zzk ?_
    refine tr_cond rfl (fun hc => ?_) (fun hc => ?_)
    · simp only [zz1, zz2, zz3, zz4, zz5, zz6, zz7, zz8] at hc
      (try simp only [eVal0] at hc)
      (try simp only [zz1, zz2, zz3, zz4, zz5, zz6, zz7, zz8] at hc)
      have hk : ¬ v.k = c.k := hc.2
      rw [if_neg hc.1, if_pos hk] at hi
      rw [← hi]
      repeat' first | refine zzs ?_ | refine zzr hnt rfl ?_ ?_ | refine zzd hnt rfl ?_ ?_ | refine zzb ?_ | refine zzk ?_
      · exact zzt
      exact tr_ret ⟨.inr rfl, _, _, rfl, trivial, rfl⟩
    simp only [zz1, zz2, zz3, zz4, zz5, zz6, zz7, zz8] at hc
    (try simp only [eVal0] at hc)
    (try simp only [zz1, zz2, zz3, zz4, zz5, zz6, zz7, zz8] at hc)
    have hk : v.k = 0 ∨ v.k = c.k := hc
    have hi : rwF (r.drop (i + 1)) (l.drop (i + 1)) = rwF r l := by
      by_cases h0 : v.k = 0
      · rcases hc1 with h | h
        · exact absurd h0 h
        · rw [if_pos h0, if_neg (by rw [h]; exact Bool.noConfusion)] at hi
          exact hi
      · rw [if_neg h0, if_neg (not_not_intro (by omega))] at hi
        exact hi
    repeat' first | refine zzs ?_ | refine zzr hnt rfl ?_ ?_ | refine zzd hnt rfl ?_ ?_ | refine zzb ?_ | refine zzk ?_
    · exact zzt
    refine ⟨i + 1, ⟨hi, by omega⟩, by omega, le_of (ad := []) ⟨zzl, zzl, zzl, zzl, zzl, zzl, trivial⟩ trivial⟩
  simp only [zz1, zz2, zz3, zz4, zz5, zz6, zz7, zz8] at hc
  (try simp only [hmr] at hc)
  (try simp only [zz1, zz2, zz3, zz4, zz5, zz6, zz7, zz8] at hc)
  refine tr_exit ?_
  rw [← hi, List.drop_eq_nil_of_le (by omega), rwF_nil]
  repeat' first | refine zzs ?_ | refine zzr hnt rfl ?_ ?_ | refine zzd hnt rfl ?_ ?_ | refine zzb ?_ | refine zzk ?_
  · exact zzt
  exact tr_ret ⟨.inr rfl, _, _, rfl, trivial, rfl⟩
set_option maxRecDepth 10000 in
set_option maxHeartbeats 2000000 in
theorem Row_fn (r : List Val) (l : List Colm) (hn : ∀ c ∈ l, c.n.length ≤ maxLen) (hv : ∀ v ∈ r, v.ok) : FnG Tryz.prog 103 gK [.one (.e (eRow r)), .one (.e (eCols l))] (.one (.e (eI (rowF r l)))) := by
  refine fn_introG (T := tab) tOk Tryz.func103 rfl (by kernel_rfl) (by simp [Tryz.ntmps103]) ?_
  intro X hX
  have hnt : X.nt = 8 := hX
  clear hX
  have h1 := fits_fn r l hn hv
  generalize rowF r l = e at *
  repeat' first | refine zzs ?_ | refine zzr hnt rfl ?_ ?_ | refine zzd hnt rfl ?_ ?_ | refine zzb ?_ | refine zzk ?_
  · exact zzt
  repeat' first | refine zzs ?_ | refine zzb ?_ | refine zzk ?_
  refine tr_region (zzx hnt rfl ?_ (callV rfl rfl rfl rfl rfl rfl rfl hnt rfl (h1) (zzx hnt rfl ?_ (Lex.nil _)))) ?_
  · exact zzt
  · exact zzt
  exact tr_ret ⟨.inr rfl, _, _, rfl, trivial, rfl⟩
set_option maxRecDepth 10000 in
set_option maxHeartbeats 2000000 in
theorem rowFault_fn (r : List Val) (l : List Colm) (hn : ∀ c ∈ l, c.n.length ≤ maxLen) (hv : ∀ v ∈ r, v.ok) : FnG Tryz.prog 108 gK [.one (.e (eRow r)), .one (.e (eCols l))] (.one (.e (eI (rowF r l)))) := by
  refine FnG.len ⟨_, _, Tryz.func108, rfl, by kernel_rfl⟩ 0 rfl fun hl0 => ?_
  refine fn_introG (T := tab) tOk Tryz.func108 rfl (by kernel_rfl) (by simp [Tryz.ntmps108]) ?_
  intro X hX
  have hnt : X.nt = 49 := hX
  clear hX
  have h1 := columnsFault_fn l hn
  have hml := colsLen l
  have hmr := rowLen r
  unfold maxLen at hl0
  unfold rowF
  generalize colsF l = e at *
  repeat' first | refine zzs ?_ | refine zzr hnt rfl ?_ ?_ | refine zzd hnt rfl ?_ ?_ | refine zzb ?_ | refine zzk ?_
  · exact zzt
  repeat' first | refine zzs ?_ | refine zzb ?_ | refine zzk ?_
  refine tr_region (zzx hnt rfl ?_ (call rfl rfl rfl rfl rfl rfl rfl hnt (h1) (zzx hnt rfl ?_ (Lex.nil _)))) ?_
  · exact zzt
  · exact zzt
  repeat' first | refine zzs ?_ | refine zzr hnt rfl ?_ ?_ | refine zzd hnt rfl ?_ ?_ | refine zzb ?_ | refine zzk ?_
  · exact zzt
  repeat' first | refine zzs ?_ | refine zzb ?_ | refine zzk ?_
  refine tr_cond rfl (fun hc => ?_) (fun hc => ?_)
  · simp only [zz1, zz2, zz3, zz4, zz5, zz6, zz7, zz8] at hc
    rw [if_pos hc]
    repeat' first | refine zzs ?_ | refine zzr hnt rfl ?_ ?_ | refine zzd hnt rfl ?_ ?_ | refine zzb ?_ | refine zzk ?_
    · exact zzt
    exact tr_ret ⟨.inr rfl, _, _, rfl, trivial, rfl⟩
  simp only [zz1, zz2, zz3, zz4, zz5, zz6, zz7, zz8] at hc
  rw [if_neg (not_not_intro hc)]
  repeat' first | refine zzs ?_ | refine zzr hnt rfl ?_ ?_ | refine zzd hnt rfl ?_ ?_ | refine zzb ?_ | refine zzk ?_
  · exact zzt
  repeat' first | refine zzs ?_ | refine zzb ?_ | refine zzk ?_
  refine tr_cond rfl (fun hc => ?_) (fun hc => ?_)
  · simp only [zz1, zz2, zz3, zz4, zz5, zz6, zz7, zz8] at hc
    (try simp only [hml, hmr] at hc)
    (try simp only [zz1, zz2, zz3, zz4, zz5, zz6, zz7, zz8] at hc)
    rw [if_pos (by omega)]
    repeat' first | refine zzs ?_ | refine zzr hnt rfl ?_ ?_ | refine zzd hnt rfl ?_ ?_ | refine zzb ?_ | refine zzk ?_
    · exact zzt
    exact tr_ret ⟨.inr rfl, _, _, rfl, trivial, rfl⟩
  simp only [zz1, zz2, zz3, zz4, zz5, zz6, zz7, zz8] at hc
  (try simp only [hml, hmr] at hc)
  (try simp only [zz1, zz2, zz3, zz4, zz5, zz6, zz7, zz8] at hc)
  have hrl : r.length = l.length := by omega
  rw [if_neg (not_not_intro hrl)]
  repeat' first | refine zzs ?_ | refine zzr hnt rfl ?_ ?_ | refine zzd hnt rfl ?_ ?_ | refine zzb ?_ | refine zzk ?_
  · exact zzt
  repeat' first | refine zzs ?_ | refine zzb ?_ | refine zzk ?_
  refine tr_loop (σ := Nat) (fun i => St.of [(1, .one (.e (eCols l))), (19, .one (.e (eRow r))), (20, .one (.e (eI ((r.map eVal).length : Int)))), (21, .one (.e (eI (i : Int)))), ((1000000 + 5), .one (.eptr fsE)), ((1000000 + 6), .one (.eptr acE))] []) (fun i => rwF (r.drop i) (l.drop i) = rwF r l ∧ i ≤ r.length) (fun i => r.length - i) (0) (le_of (ad := []) ⟨zzl, zzl, zzl, zzl, zzl, zzl, trivial⟩ trivial) ⟨rfl, Nat.zero_le _⟩ ?_
  rintro i ⟨hi, il⟩
  repeat' first | refine zzs ?_ | refine zzr hnt rfl ?_ ?_ | refine zzd hnt rfl ?_ ?_ | refine zzb ?_ | refine zzk ?_
  · exact zzt
  repeat' first | refine zzs ?_ | refine zzb ?_ | refine zzk ?_
  refine tr_cond rfl (fun hc => ?_) (fun hc => ?_)
  · simp only [zz1, zz2, zz3, zz4, zz5, zz6, zz7, zz8] at hc
    (try simp only [hmr] at hc)
    (try simp only [zz1, zz2, zz3, zz4, zz5, zz6, zz7, zz8] at hc)
    have hlt : i < r.length := by omega
    have hlt2 : i < l.length := by omega
    rw [drop_getD (d := val0) hlt, drop_getD (d := col0) hlt2, rwF] at hi
    have hg := rowGet r i hlt
    have hg2 := colsGet l i hlt2
    have hg3 : ((l.map eCol).getD i []).length = 3 := by rw [hg2]; rfl
    repeat' first | refine zzs ?_ | refine zzb ?_ | refine zzk ?_
    first | refine zzr hnt rfl ?_ ?_ | refine zzd hnt rfl ?_ ?_
    · rw [Int.toNat_natCast, hg, hmr]
      exact zza
    rw [Int.toNat_natCast, hg]
    have hmem : r.getD i val0 ∈ r := by
      rw [List.getD_eq_getElem?_getD, List.getElem?_eq_getElem hlt]
      exact List.getElem_mem hlt
    have hok := hv _ hmem
    have hmem2 : l.getD i col0 ∈ l := by
      rw [List.getD_eq_getElem?_getD, List.getElem?_eq_getElem hlt2]
      exact List.getElem_mem hlt2
    change _ = rwF r l at hi
    rw [show r.getD i ⟨0, 0, 0, []⟩ = r.getD i val0 from rfl]
    generalize r.getD i val0 = v at *
    generalize l.getD i col0 = c at *
    rw [valBox]
    have hf := fault_fn v hok
    generalize chk v = e at *
    repeat' first | refine zzs ?_ | refine zzb ?_ | refine zzk ?_
    refine tr_region (zzx hnt rfl ?_ (callV rfl rfl rfl rfl rfl rfl rfl hnt rfl (hf) (zzx hnt rfl ?_ (Lex.nil _)))) ?_
    · exact zzt
    · exact zzt
    repeat' first | refine zzs ?_ | refine zzr hnt rfl ?_ ?_ | refine zzd hnt rfl ?_ ?_ | refine zzb ?_ | refine zzk ?_
    · exact zzt
    repeat' first | refine zzs ?_ | refine zzb ?_ | refine zzk ?_
    refine tr_cond rfl (fun hc => ?_) (fun hc => ?_)
    · simp only [zz1, zz2, zz3, zz4, zz5, zz6, zz7, zz8] at hc
      rw [if_pos hc] at hi
      rw [← hi]
      repeat' first | refine zzs ?_ | refine zzr hnt rfl ?_ ?_ | refine zzd hnt rfl ?_ ?_ | refine zzb ?_ | refine zzk ?_
      · exact zzt
      exact tr_ret ⟨.inr rfl, _, _, rfl, trivial, rfl⟩
    simp only [zz1, zz2, zz3, zz4, zz5, zz6, zz7, zz8] at hc
    rw [if_neg (not_not_intro hc)] at hi
    repeat' first | refine zzs ?_ | refine zzr hnt rfl ?_ ?_ | refine zzd hnt rfl ?_ ?_ | refine zzb ?_ | refine zzk ?_
    · exact zzt
    repeat' first | refine zzs ?_ | refine zzb ?_ | refine zzk ?_
    refine tr_cond rfl (fun hc => ?_) (fun hc => ?_)
    · simp only [zz1, zz2, zz3, zz4, zz5, zz6, zz7, zz8] at hc
      (try simp only [eVal0] at hc)
      (try simp only [zz1, zz2, zz3, zz4, zz5, zz6, zz7, zz8] at hc)
      rw [if_pos hc] at hi
      repeat' first | refine zzs ?_ | refine zzb ?_ | refine zzk ?_
      first | refine zzr hnt rfl ?_ ?_ | refine zzd hnt rfl ?_ ?_
      · rw [Int.toNat_natCast, hg2, hml]
        exact zza
      rw [Int.toNat_natCast, hg2]
      repeat' first | refine zzs ?_ | refine zzb ?_ | refine zzk ?_
      refine tr_cond rfl (fun hc => ?_) (fun hc => ?_)
      · simp only [zz1, zz2, zz3, zz4, zz5, zz6, zz7, zz8] at hc
        have hu : c.u = false := hc
        rw [if_pos hu] at hi
        rw [← hi]
        repeat' first | refine zzs ?_ | refine zzr hnt rfl ?_ ?_ | refine zzd hnt rfl ?_ ?_ | refine zzb ?_ | refine zzk ?_
        · exact zzt
        exact tr_ret ⟨.inr rfl, _, _, rfl, trivial, rfl⟩
      simp only [zz1, zz2, zz3, zz4, zz5, zz6, zz7, zz8] at hc
      have hu : c.u = true := hc
      rw [if_neg (by rw [hu]; exact Bool.noConfusion)] at hi
      repeat' first | refine zzs ?_ | refine zzr hnt rfl ?_ ?_ | refine zzd hnt rfl ?_ ?_ | refine zzb ?_ | refine zzk ?_
      · exact zzt
      refine ⟨i + 1, ⟨hi, by omega⟩, by omega, le_of (ad := []) ⟨zzl, zzl, zzl, zzl, zzl, zzl, trivial⟩ trivial⟩
    simp only [zz1, zz2, zz3, zz4, zz5, zz6, zz7, zz8] at hc
    (try simp only [eVal0] at hc)
    (try simp only [zz1, zz2, zz3, zz4, zz5, zz6, zz7, zz8] at hc)
    rw [if_neg hc] at hi
    repeat' first | refine zzs ?_ | refine zzb ?_ | refine zzk ?_
    first | refine zzr hnt rfl ?_ ?_ | refine zzd hnt rfl ?_ ?_
    · rw [Int.toNat_natCast, hg2, hml]
      exact zza
    rw [Int.toNat_natCast, hg2]
    repeat' first | refine zzs ?_ | refine zzb ?_ | refine zzk ?_
    refine tr_cond rfl (fun hc => ?_) (fun hc => ?_)
    · simp only [zz1, zz2, zz3, zz4, zz5, zz6, zz7, zz8] at hc
      (try simp only [eVal0] at hc)
      (try simp only [zz1, zz2, zz3, zz4, zz5, zz6, zz7, zz8] at hc)
      have hk : ¬ v.k = c.k := hc
      rw [if_pos hk] at hi
      rw [← hi]
      repeat' first | refine zzs ?_ | refine zzr hnt rfl ?_ ?_ | refine zzd hnt rfl ?_ ?_ | refine zzb ?_ | refine zzk ?_
      · exact zzt
      exact tr_ret ⟨.inr rfl, _, _, rfl, trivial, rfl⟩
    simp only [zz1, zz2, zz3, zz4, zz5, zz6, zz7, zz8] at hc
    (try simp only [eVal0] at hc)
    (try simp only [zz1, zz2, zz3, zz4, zz5, zz6, zz7, zz8] at hc)
    have hk : v.k = c.k := hc
    rw [if_neg (not_not_intro hk)] at hi
    repeat' first | refine zzs ?_ | refine zzr hnt rfl ?_ ?_ | refine zzd hnt rfl ?_ ?_ | refine zzb ?_ | refine zzk ?_
    · exact zzt
    refine ⟨i + 1, ⟨hi, by omega⟩, by omega, le_of (ad := []) ⟨zzl, zzl, zzl, zzl, zzl, zzl, trivial⟩ trivial⟩
  simp only [zz1, zz2, zz3, zz4, zz5, zz6, zz7, zz8] at hc
  (try simp only [hmr] at hc)
  (try simp only [zz1, zz2, zz3, zz4, zz5, zz6, zz7, zz8] at hc)
  refine tr_exit ?_
  rw [← hi, List.drop_eq_nil_of_le (by omega), rwF_nil]
  repeat' first | refine zzs ?_ | refine zzr hnt rfl ?_ ?_ | refine zzd hnt rfl ?_ ?_ | refine zzb ?_ | refine zzk ?_
  · exact zzt
  exact tr_ret ⟨.inr rfl, _, _, rfl, trivial, rfl⟩
end Go.Proofs.YthnadkafegmacaaGreatDoor
