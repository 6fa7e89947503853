/- kinds.Of: its joints. No condition. -/
import Derived.Test.YthnadkafegmacaaGreatDoorTExA
namespace Go.Proofs.YthnadkafegmacaaGreatDoor
open Go Go.RowKit Go.Proofs.YthnadkafegmacaaGreatDoor.Ab
set_option linter.unusedSimpArgs false
set_option linter.unusedVariables false

abbrev Srt := Int × Bool
abbrev KR := Int × Bool × Int
def eSo (s : Srt) : List E := [eI s.1, eBl s.2]
def s0 : Srt := (0, false)
def rSo (r : KR) : D := .tup [(true, .es [eI r.1, eBl r.2.1]), (false, .es [eI r.2.2])]
def eS2 (l : List Srt) : List E := [eI (l.getD 0 s0).1, eBl (l.getD 0 s0).2, eI (l.getD 1 s0).1, eBl (l.getD 1 s0).2]
theorem eSo0 (s : Srt) : ((eSo s).getD (0 + 0) E.dflt).int = s.1 := rfl
def ftB (s : Srt) (k : Int) : Bool := bif decide (s.1 = k) then true else decide (s.1 = 0)
def wiF (a b : Srt) : Srt := (if a.1 = 0 then b.1 else a.1, a.2 || b.2)
set_option maxRecDepth 10000 in
set_option maxHeartbeats 2000000 in
theorem fts_fn (s : Srt) (k : Int) : FnD Tryz.prog 259 [.agg (.es (eSo s)), .one (.e (eI k))] (.v (.bool (ftB s k))) := by
  refine fn_intro (T := tab) tOk Tryz.func259 rfl (by kernel_rfl) (by simp [Tryz.ntmps259]) ?_
  intro X hX
  have hnt : X.nt = 14 := hX
  clear hX
  repeat' first | refine zzs ?_ | refine zzr hnt rfl ?_ ?_ | refine zzd hnt rfl ?_ ?_ | refine zzb ?_ | refine zzk ?_
  · exact zzt
  · exact zzt
  exact tr_ret ⟨.inr rfl, _, _, rfl, trivial, rfl⟩
set_option maxRecDepth 10000 in
set_option maxHeartbeats 2000000 in
theorem with_fn (a b : Srt) : FnD Tryz.prog 260 [.agg (.es (eSo a)), .agg (.es (eSo b))] (.agg (.es (eSo (wiF a b)))) := by
  refine fn_intro (T := tab) tOk Tryz.func260 rfl (by kernel_rfl) (by simp [Tryz.ntmps260]) ?_
  intro X hX
  have hnt : X.nt = 19 := hX
  clear hX
  unfold wiF
  repeat' first | refine zzs ?_ | refine zzr hnt rfl ?_ ?_ | refine zzd hnt rfl ?_ ?_ | refine zzb ?_ | refine zzk ?_
  · exact zzt
  · exact zzt
  repeat' first | refine zzs ?_ | refine zzb ?_ | refine zzk ?_
  refine tr_cond rfl (fun hc => ?_) (fun hc => ?_)
  · simp only [zz1, zz2, zz3, zz4, zz5, zz6, zz7, zz8] at hc
    (try simp only [eSo0] at hc)
    (try simp only [zz1, zz2, zz3, zz4, zz5, zz6, zz7, zz8] at hc)
    rw [if_pos hc]
    repeat' first | refine zzs ?_ | refine zzr hnt rfl ?_ ?_ | refine zzd hnt rfl ?_ ?_ | refine zzb ?_ | refine zzk ?_
    · exact zzt
    repeat' first | refine zzs ?_ | refine zzr hnt rfl ?_ ?_ | refine zzd hnt rfl ?_ ?_ | refine zzb ?_ | refine zzk ?_
    · exact zzt
    repeat' first | refine zzs ?_ | refine zzr hnt rfl ?_ ?_ | refine zzd hnt rfl ?_ ?_ | refine zzb ?_ | refine zzk ?_
    · exact zzt
    repeat' first | refine zzs ?_ | refine zzb ?_ | refine zzk ?_
    refine tr_ret ⟨.inr rfl, _, _, rfl, zzp, ?_⟩
    exact rfl
  simp only [zz1, zz2, zz3, zz4, zz5, zz6, zz7, zz8] at hc
  (try simp only [eSo0] at hc)
  (try simp only [zz1, zz2, zz3, zz4, zz5, zz6, zz7, zz8] at hc)
  rw [if_neg hc]
  repeat' first | refine zzs ?_ | refine zzr hnt rfl ?_ ?_ | refine zzd hnt rfl ?_ ?_ | refine zzb ?_ | refine zzk ?_
  · exact zzt
  repeat' first | refine zzs ?_ | refine zzr hnt rfl ?_ ?_ | refine zzd hnt rfl ?_ ?_ | refine zzb ?_ | refine zzk ?_
  · exact zzt
  repeat' first | refine zzs ?_ | refine zzb ?_ | refine zzk ?_
  refine tr_ret ⟨.inr rfl, _, _, rfl, zzp, ?_⟩
  exact rfl
def akF (k g : Int) : Bool → List Srt → KR
  | u, [] => (g, u, 0)
  | u, x :: r => if ftB x k = false then (0, false, 2) else akF k g (u || x.2) r
theorem s2Chunks (l : List Srt) (n : Nat) (h : l.length = n) (h2 : n ≤ 2) : chunksE 2 n (eS2 l) = l.map eSo := by
  match l, h with
  | [], h => subst h; rfl
  | [a], h => subst h; rfl
  | [a, b], h => subst h; rfl
  | a :: b :: c :: r, h => rw [← h] at h2; exact absurd h2 (by simp)
theorem sosGet (l : List Srt) (i : Nat) (h : i < l.length) : (l.map eSo).getD i [] = eSo (l.getD i s0) := by
  rw [List.getD_eq_getElem?_getD, List.getElem?_map, List.getElem?_eq_getElem h, List.getD_eq_getElem?_getD, List.getElem?_eq_getElem h]
  rfl
set_option maxRecDepth 10000 in
set_option maxHeartbeats 2000000 in
theorem asks_fn (k g : Int) (ss : List Srt) (n : Nat) (hn : ss.length = n) (h2 : n ≤ 2) : FnD Tryz.prog 258 [.one (.e (eI k)), .one (.e (eI g)), .one (.eptr (eS2 ss)), .one (.eptr [eI (n : Int)])] (rSo (akF k g false ss)) := by
  refine fn_intro (T := tab) tOk Tryz.func258 rfl (by kernel_rfl) (by simp [Tryz.ntmps258]) ?_
  intro X hX
  have hnt : X.nt = 34 := hX
  clear hX
  have hml : (ss.map eSo).length = n := by rw [List.length_map, hn]
  have n1 : 0 ≤ ([eI (n : Int)].getD 0 E.dflt).int := by show (0 : Int) ≤ (n : Int); omega
  have n2 : ([eI (n : Int)].getD 0 E.dflt).int ≤ ((2 : Nat) : Int) := by show (n : Int) ≤ ((2 : Nat) : Int); omega
  have n3 : ([eI (n : Int)].getD 0 E.dflt).int.toNat * 2 ≤ (eS2 ss).length := by show n * 2 ≤ 4; omega
  repeat' first | refine zzs ?_ | refine zzr hnt rfl ?_ ?_ | refine zzd hnt rfl ?_ ?_ | refine zzb ?_ | refine zzk ?_
  · exact zzt
  · exact zzt
  · (dsimp only [AllP]; (repeat' first | exact trivial | assumption | exact Nat.le_of_ble_eq_true rfl | apply And.intro | exact rfl | decide))
  rw [show chunksE 2 (([eI (n : Int)].getD 0 E.dflt).int.toNat - Int.toNat 0) (List.drop (Int.toNat 0 * 2) (eS2 ss)) = ss.map eSo from s2Chunks ss n hn h2, hml]
  clear n1 n2 n3
  repeat' first | refine zzs ?_ | refine zzb ?_ | refine zzk ?_
  refine tr_loop (σ := Nat × Bool) (fun y => St.of [(0, .one (.e (eI k))), (6, .one (.ptr 6 0 0)), (8, .one (.ptr 8 0 0)), (14, .one (.e (.sl (ss.map eSo)))), (15, .one (.e (eI (n : Int)))), (16, .one (.e (eI (y.1 : Int))))] [(6, ⟨0, .box (.es [eI 0, eBl false]), 0⟩), (8, ⟨0, .box (.es [eI g, eBl y.2]), 0⟩)]) (fun y => akF k g y.2 (ss.drop y.1) = akF k g false ss ∧ y.1 ≤ n) (fun y => n - y.1) ((0, false)) (le_of (ad := []) ⟨zzl, zzl, zzl, zzl, zzl, zzl, trivial⟩ (memOk_box rfl rfl rfl (memOk_box rfl rfl rfl trivial))) ⟨rfl, Nat.zero_le _⟩ ?_
  rintro ⟨i, u⟩ ⟨hi, il⟩
  dsimp only at hi il ⊢
  repeat' first | refine zzs ?_ | refine zzr hnt rfl ?_ ?_ | refine zzd hnt rfl ?_ ?_ | refine zzb ?_ | refine zzk ?_
  · exact zzt
  repeat' first | refine zzs ?_ | refine zzb ?_ | refine zzk ?_
  refine tr_cond rfl (fun hc => ?_) (fun hc => ?_)
  · simp only [zz1, zz2, zz3, zz4, zz5, zz6, zz7, zz8] at hc
    have hlt : i < ss.length := by omega
    rw [drop_getD (d := s0) hlt, akF] at hi
    have hg := sosGet ss i hlt
    repeat' first | refine zzs ?_ | refine zzb ?_ | refine zzk ?_
    first | refine zzr hnt rfl ?_ ?_ | refine zzd hnt rfl ?_ ?_
    · rw [Int.toNat_natCast, hg, hml]
      exact zza
    rw [Int.toNat_natCast, hg]
    generalize ss.getD i s0 = x at *
    have h1 := fts_fn x k
    generalize ftB x k = b at *
    repeat' first | refine zzs ?_ | refine zzb ?_ | refine zzk ?_
    refine tr_region (zzx hnt rfl ?_ (call rfl rfl rfl rfl rfl rfl rfl hnt (h1) (zzx hnt rfl ?_ (Lex.nil _)))) ?_
    · exact zzt
    · exact zzt
    repeat' first | refine zzs ?_ | refine zzb ?_ | refine zzk ?_
    refine tr_cond rfl (fun hc => ?_) (fun hc => ?_)
    · have hc : (!b) = true := hc
      rw [Bool.not_eq_true'] at hc
      rw [if_pos hc] at hi
      rw [← hi]
      repeat' first | refine zzs ?_ | refine zzr hnt rfl ?_ ?_ | refine zzd hnt rfl ?_ ?_ | refine zzb ?_ | refine zzk ?_
      · exact zzt
      repeat' first | refine zzs ?_ | refine zzb ?_ | refine zzk ?_
      refine tr_ret ⟨.inr rfl, _, _, rfl, zzp, ?_⟩
      exact rfl
    have hc : (!b) = false := hc
    rw [Bool.not_eq_false'] at hc
    rw [if_neg (by rw [hc]; exact Bool.noConfusion)] at hi
    repeat' first | refine zzs ?_ | refine zzr hnt rfl ?_ ?_ | refine zzd hnt rfl ?_ ?_ | refine zzb ?_ | refine zzk ?_
    · exact zzt
    · exact zzt
    refine ⟨(i + 1, u || x.2), ⟨hi, by dsimp only; omega⟩, by dsimp only; omega, le_of (ad := []) ⟨zzl, zzl, zzl, zzl, zzl, zzl, trivial⟩ (memOk_box rfl rfl rfl (memOk_box rfl rfl rfl trivial))⟩
  simp only [zz1, zz2, zz3, zz4, zz5, zz6, zz7, zz8] at hc
  refine tr_exit ?_
  rw [← hi, List.drop_eq_nil_of_le (by omega), akF]
  repeat' first | refine zzs ?_ | refine zzr hnt rfl ?_ ?_ | refine zzd hnt rfl ?_ ?_ | refine zzb ?_ | refine zzk ?_
  · exact zzt
  repeat' first | refine zzs ?_ | refine zzb ?_ | refine zzk ?_
  refine tr_ret ⟨.inr rfl, _, _, rfl, zzp, ?_⟩
  exact rfl
def twF (op : Int) (a b : Srt) : KR := if (bif !ftB a (wiF a b).1 then true else !ftB b (wiF a b).1) = true then (0, false, 2) else if op = 20 then ((wiF a b).1, (bif a.2 then b.2 else false), 0) else (1, (wiF a b).2, 0)
def joF (op : Int) (l : List Srt) : KR :=
  if op = 3 ∨ op = 5 ∨ op = 6 ∨ op = 7 ∨ op = 8 then akF 2 2 false l else if op = 4 ∨ op = 15 ∨ op = 16 then akF 1 1 false l else if op = 18 then akF 4 2 false l else if op = 19 then akF 4 4 false l else if op = 17 then (1, false, 0)
  else twF op (l.getD 0 s0) (l.getD 1 s0)
set_option maxRecDepth 10000 in
set_option maxHeartbeats 2000000 in
theorem joined_fn (op : Int) (n : Nat) (l : List Srt) (hn : l.length = n) (h2 : n ≤ 2) : FnD Tryz.prog 234 [.one (.e (eI op)), .one (.e (eI (n : Int))), .agg (.es (eS2 l))] (rSo (joF op l)) := by
  refine fn_intro (T := tab) tOk Tryz.func234 rfl (by kernel_rfl) (by simp [Tryz.ntmps234]) ?_
  intro X hX
  have hnt : X.nt = 81 := hX
  clear hX
  unfold joF
  repeat' first | refine zzs ?_ | refine zzr hnt rfl ?_ ?_ | refine zzd hnt rfl ?_ ?_ | refine zzb ?_ | refine zzk ?_
  · exact zzt
  · exact zzt
  · exact zzt
  repeat' first | refine zzs ?_ | refine zzr hnt rfl ?_ ?_ | refine zzd hnt rfl ?_ ?_ | refine zzb ?_ | refine zzk ?_
  · exact zzt
  repeat' first | refine zzs ?_ | refine zzb ?_ | refine zzk ?_
  refine tr_cond rfl (fun hc => ?_) (fun hc => ?_)
  · have ho : op = 3 := of_decide_eq_true hc
    rw [if_pos (by omega)]
    have a1 := asks_fn 2 2 l n hn h2
    repeat' first | refine zzs ?_ | refine zzb ?_ | refine zzk ?_
    repeat' first | refine zzs ?_ | refine zzb ?_ | refine zzk ?_
    refine tr_cond rfl (fun hc => ?_) (fun hc => ?_)
    · repeat' first | refine zzs ?_ | refine zzb ?_ | refine zzk ?_
      refine tr_region (zzx hnt rfl ?_ (callC rfl rfl rfl rfl rfl rfl rfl hnt (a1) (zzx hnt rfl ?_ (Lex.nil _)))) ?_
      · exact zzt
      · exact zzt
      repeat' first | refine zzs ?_ | refine zzb ?_ | refine zzk ?_
      refine tr_ret ⟨.inr rfl, _, _, rfl, zzp, ?_⟩
      exact rfl
    exact absurd ho (of_decide_eq_false hc)
  have n3 : op ≠ 3 := of_decide_eq_false hc
  clear hc
  repeat' first | refine zzs ?_ | refine zzr hnt rfl ?_ ?_ | refine zzd hnt rfl ?_ ?_ | refine zzb ?_ | refine zzk ?_
  · exact zzt
  repeat' first | refine zzs ?_ | refine zzb ?_ | refine zzk ?_
  refine tr_cond rfl (fun hc => ?_) (fun hc => ?_)
  · have ho : op = 5 := of_decide_eq_true hc
    rw [if_pos (by omega)]
    have a1 := asks_fn 2 2 l n hn h2
    repeat' first | refine zzs ?_ | refine zzb ?_ | refine zzk ?_
    repeat' first | refine zzs ?_ | refine zzb ?_ | refine zzk ?_
    refine tr_cond rfl (fun hc => ?_) (fun hc => ?_)
    · repeat' first | refine zzs ?_ | refine zzb ?_ | refine zzk ?_
      refine tr_region (zzx hnt rfl ?_ (callC rfl rfl rfl rfl rfl rfl rfl hnt (a1) (zzx hnt rfl ?_ (Lex.nil _)))) ?_
      · exact zzt
      · exact zzt
      repeat' first | refine zzs ?_ | refine zzb ?_ | refine zzk ?_
      refine tr_ret ⟨.inr rfl, _, _, rfl, zzp, ?_⟩
      exact rfl
    exact absurd ho (of_decide_eq_false hc)
  have n5 : op ≠ 5 := of_decide_eq_false hc
  clear hc
  repeat' first | refine zzs ?_ | refine zzr hnt rfl ?_ ?_ | refine zzd hnt rfl ?_ ?_ | refine zzb ?_ | refine zzk ?_
  · exact zzt
  repeat' first | refine zzs ?_ | refine zzb ?_ | refine zzk ?_
  refine tr_cond rfl (fun hc => ?_) (fun hc => ?_)
  · have ho : op = 6 := of_decide_eq_true hc
    rw [if_pos (by omega)]
    have a1 := asks_fn 2 2 l n hn h2
    repeat' first | refine zzs ?_ | refine zzb ?_ | refine zzk ?_
    repeat' first | refine zzs ?_ | refine zzb ?_ | refine zzk ?_
    refine tr_cond rfl (fun hc => ?_) (fun hc => ?_)
    · repeat' first | refine zzs ?_ | refine zzb ?_ | refine zzk ?_
      refine tr_region (zzx hnt rfl ?_ (callC rfl rfl rfl rfl rfl rfl rfl hnt (a1) (zzx hnt rfl ?_ (Lex.nil _)))) ?_
      · exact zzt
      · exact zzt
      repeat' first | refine zzs ?_ | refine zzb ?_ | refine zzk ?_
      refine tr_ret ⟨.inr rfl, _, _, rfl, zzp, ?_⟩
      exact rfl
    exact absurd ho (of_decide_eq_false hc)
  have n6 : op ≠ 6 := of_decide_eq_false hc
  clear hc
  repeat' first | refine zzs ?_ | refine zzr hnt rfl ?_ ?_ | refine zzd hnt rfl ?_ ?_ | refine zzb ?_ | refine zzk ?_
  · exact zzt
  repeat' first | refine zzs ?_ | refine zzb ?_ | refine zzk ?_
  refine tr_cond rfl (fun hc => ?_) (fun hc => ?_)
  · have ho : op = 7 := of_decide_eq_true hc
    rw [if_pos (by omega)]
    have a1 := asks_fn 2 2 l n hn h2
    repeat' first | refine zzs ?_ | refine zzb ?_ | refine zzk ?_
    repeat' first | refine zzs ?_ | refine zzb ?_ | refine zzk ?_
    refine tr_cond rfl (fun hc => ?_) (fun hc => ?_)
    · repeat' first | refine zzs ?_ | refine zzb ?_ | refine zzk ?_
      refine tr_region (zzx hnt rfl ?_ (callC rfl rfl rfl rfl rfl rfl rfl hnt (a1) (zzx hnt rfl ?_ (Lex.nil _)))) ?_
      · exact zzt
      · exact zzt
      repeat' first | refine zzs ?_ | refine zzb ?_ | refine zzk ?_
      refine tr_ret ⟨.inr rfl, _, _, rfl, zzp, ?_⟩
      exact rfl
    exact absurd ho (of_decide_eq_false hc)
  have n7 : op ≠ 7 := of_decide_eq_false hc
  clear hc
  repeat' first | refine zzs ?_ | refine zzr hnt rfl ?_ ?_ | refine zzd hnt rfl ?_ ?_ | refine zzb ?_ | refine zzk ?_
  · exact zzt
  repeat' first | refine zzs ?_ | refine zzb ?_ | refine zzk ?_
  refine tr_cond rfl (fun hc => ?_) (fun hc => ?_)
  · have ho : op = 8 := of_decide_eq_true hc
    rw [if_pos (by omega)]
    have a1 := asks_fn 2 2 l n hn h2
    repeat' first | refine zzs ?_ | refine zzb ?_ | refine zzk ?_
    refine tr_region (zzx hnt rfl ?_ (callC rfl rfl rfl rfl rfl rfl rfl hnt (a1) (zzx hnt rfl ?_ (Lex.nil _)))) ?_
    · exact zzt
    · exact zzt
    repeat' first | refine zzs ?_ | refine zzb ?_ | refine zzk ?_
    refine tr_ret ⟨.inr rfl, _, _, rfl, zzp, ?_⟩
    exact rfl
  have n8 : op ≠ 8 := of_decide_eq_false hc
  clear hc
  repeat' first | refine zzs ?_ | refine zzr hnt rfl ?_ ?_ | refine zzd hnt rfl ?_ ?_ | refine zzb ?_ | refine zzk ?_
  · exact zzt
  repeat' first | refine zzs ?_ | refine zzb ?_ | refine zzk ?_
  refine tr_cond rfl (fun hc => ?_) (fun hc => ?_)
  · have ho : op = 4 := of_decide_eq_true hc
    rw [if_neg (by omega), if_pos (by omega)]
    have a1 := asks_fn 1 1 l n hn h2
    repeat' first | refine zzs ?_ | refine zzb ?_ | refine zzk ?_
    repeat' first | refine zzs ?_ | refine zzb ?_ | refine zzk ?_
    refine tr_cond rfl (fun hc => ?_) (fun hc => ?_)
    · repeat' first | refine zzs ?_ | refine zzb ?_ | refine zzk ?_
      refine tr_region (zzx hnt rfl ?_ (callC rfl rfl rfl rfl rfl rfl rfl hnt (a1) (zzx hnt rfl ?_ (Lex.nil _)))) ?_
      · exact zzt
      · exact zzt
      repeat' first | refine zzs ?_ | refine zzb ?_ | refine zzk ?_
      refine tr_ret ⟨.inr rfl, _, _, rfl, zzp, ?_⟩
      exact rfl
    exact absurd ho (of_decide_eq_false hc)
  have n4 : op ≠ 4 := of_decide_eq_false hc
  clear hc
  repeat' first | refine zzs ?_ | refine zzr hnt rfl ?_ ?_ | refine zzd hnt rfl ?_ ?_ | refine zzb ?_ | refine zzk ?_
  · exact zzt
  repeat' first | refine zzs ?_ | refine zzb ?_ | refine zzk ?_
  refine tr_cond rfl (fun hc => ?_) (fun hc => ?_)
  · have ho : op = 15 := of_decide_eq_true hc
    rw [if_neg (by omega), if_pos (by omega)]
    have a1 := asks_fn 1 1 l n hn h2
    repeat' first | refine zzs ?_ | refine zzb ?_ | refine zzk ?_
    repeat' first | refine zzs ?_ | refine zzb ?_ | refine zzk ?_
    refine tr_cond rfl (fun hc => ?_) (fun hc => ?_)
    · repeat' first | refine zzs ?_ | refine zzb ?_ | refine zzk ?_
      refine tr_region (zzx hnt rfl ?_ (callC rfl rfl rfl rfl rfl rfl rfl hnt (a1) (zzx hnt rfl ?_ (Lex.nil _)))) ?_
      · exact zzt
      · exact zzt
      repeat' first | refine zzs ?_ | refine zzb ?_ | refine zzk ?_
      refine tr_ret ⟨.inr rfl, _, _, rfl, zzp, ?_⟩
      exact rfl
    exact absurd ho (of_decide_eq_false hc)
  have n15 : op ≠ 15 := of_decide_eq_false hc
  clear hc
  repeat' first | refine zzs ?_ | refine zzr hnt rfl ?_ ?_ | refine zzd hnt rfl ?_ ?_ | refine zzb ?_ | refine zzk ?_
  · exact zzt
  repeat' first | refine zzs ?_ | refine zzb ?_ | refine zzk ?_
  refine tr_cond rfl (fun hc => ?_) (fun hc => ?_)
  · have ho : op = 16 := of_decide_eq_true hc
    rw [if_neg (by omega), if_pos (by omega)]
    have a1 := asks_fn 1 1 l n hn h2
    repeat' first | refine zzs ?_ | refine zzb ?_ | refine zzk ?_
    refine tr_region (zzx hnt rfl ?_ (callC rfl rfl rfl rfl rfl rfl rfl hnt (a1) (zzx hnt rfl ?_ (Lex.nil _)))) ?_
    · exact zzt
    · exact zzt
    repeat' first | refine zzs ?_ | refine zzb ?_ | refine zzk ?_
    refine tr_ret ⟨.inr rfl, _, _, rfl, zzp, ?_⟩
    exact rfl
  have n16 : op ≠ 16 := of_decide_eq_false hc
  clear hc
  repeat' first | refine zzs ?_ | refine zzr hnt rfl ?_ ?_ | refine zzd hnt rfl ?_ ?_ | refine zzb ?_ | refine zzk ?_
  · exact zzt
  repeat' first | refine zzs ?_ | refine zzb ?_ | refine zzk ?_
  refine tr_cond rfl (fun hc => ?_) (fun hc => ?_)
  · have ho : op = 18 := of_decide_eq_true hc
    rw [if_neg (by omega), if_neg (by omega), if_pos ho]
    have a1 := asks_fn 4 2 l n hn h2
    repeat' first | refine zzs ?_ | refine zzb ?_ | refine zzk ?_
    refine tr_region (zzx hnt rfl ?_ (callC rfl rfl rfl rfl rfl rfl rfl hnt (a1) (zzx hnt rfl ?_ (Lex.nil _)))) ?_
    · exact zzt
    · exact zzt
    repeat' first | refine zzs ?_ | refine zzb ?_ | refine zzk ?_
    refine tr_ret ⟨.inr rfl, _, _, rfl, zzp, ?_⟩
    exact rfl
  have n18 : op ≠ 18 := of_decide_eq_false hc
  clear hc
  repeat' first | refine zzs ?_ | refine zzr hnt rfl ?_ ?_ | refine zzd hnt rfl ?_ ?_ | refine zzb ?_ | refine zzk ?_
  · exact zzt
  repeat' first | refine zzs ?_ | refine zzb ?_ | refine zzk ?_
  refine tr_cond rfl (fun hc => ?_) (fun hc => ?_)
  · have ho : op = 19 := of_decide_eq_true hc
    rw [if_neg (by omega), if_neg (by omega), if_neg (by omega), if_pos ho]
    have a1 := asks_fn 4 4 l n hn h2
    repeat' first | refine zzs ?_ | refine zzb ?_ | refine zzk ?_
    refine tr_region (zzx hnt rfl ?_ (callC rfl rfl rfl rfl rfl rfl rfl hnt (a1) (zzx hnt rfl ?_ (Lex.nil _)))) ?_
    · exact zzt
    · exact zzt
    repeat' first | refine zzs ?_ | refine zzb ?_ | refine zzk ?_
    refine tr_ret ⟨.inr rfl, _, _, rfl, zzp, ?_⟩
    exact rfl
  have n19 : op ≠ 19 := of_decide_eq_false hc
  clear hc
  repeat' first | refine zzs ?_ | refine zzr hnt rfl ?_ ?_ | refine zzd hnt rfl ?_ ?_ | refine zzb ?_ | refine zzk ?_
  · exact zzt
  repeat' first | refine zzs ?_ | refine zzb ?_ | refine zzk ?_
  refine tr_cond rfl (fun hc => ?_) (fun hc => ?_)
  · have ho : op = 17 := of_decide_eq_true hc
    rw [if_neg (by omega), if_neg (by omega), if_neg (by omega), if_neg (by omega), if_pos ho]
    repeat' first | refine zzs ?_ | refine zzr hnt rfl ?_ ?_ | refine zzd hnt rfl ?_ ?_ | refine zzb ?_ | refine zzk ?_
    · exact zzt
    repeat' first | refine zzs ?_ | refine zzb ?_ | refine zzk ?_
    refine tr_ret ⟨.inr rfl, _, _, rfl, zzp, ?_⟩
    exact rfl
  have n17 : op ≠ 17 := of_decide_eq_false hc
  clear hc
  rw [if_neg (by omega), if_neg (by omega), if_neg (by omega), if_neg (by omega), if_neg n17]
  unfold twF
  have hw := with_fn (l.getD 0 s0) (l.getD 1 s0)
  repeat' first | refine zzs ?_ | refine zzb ?_ | refine zzk ?_
  generalize wiF (l.getD 0 s0) (l.getD 1 s0) = w at *
  repeat' first | refine zzs ?_ | refine zzb ?_ | refine zzk ?_
  refine tr_region (zzx hnt rfl ?_ (call rfl rfl rfl rfl rfl rfl rfl hnt (hw) (zzx hnt rfl ?_ (Lex.nil _)))) ?_
  · exact zzt
  · exact zzt
  have f1 := fts_fn (l.getD 0 s0) w.1
  have f2 := fts_fn (l.getD 1 s0) w.1
  generalize ftB (l.getD 0 s0) w.1 = b1 at *
  generalize ftB (l.getD 1 s0) w.1 = b2 at *
  repeat' first | refine zzs ?_ | refine zzb ?_ | refine zzk ?_
  refine tr_region (zzx hnt rfl ?_ (call rfl rfl rfl rfl rfl rfl rfl hnt (f1) (zzx hnt rfl ?_ (callG rfl rfl rfl rfl rfl rfl hnt rfl (fun hq => ?_) (fun hq => f2) (zzx hnt rfl ?_ (Lex.nil _)))))) ?_
  · exact zza
  · exact zza
  · exact zza
  · exact zza
  repeat' first | refine zzs ?_ | refine zzb ?_ | refine zzk ?_
  refine tr_cond rfl (fun hc => ?_) (fun hc => ?_)
  · have hc : (bif !b1 then true else !b2) = true := hc
    rw [if_pos hc]
    repeat' first | refine zzs ?_ | refine zzr hnt rfl ?_ ?_ | refine zzd hnt rfl ?_ ?_ | refine zzb ?_ | refine zzk ?_
    · exact zzt
    repeat' first | refine zzs ?_ | refine zzb ?_ | refine zzk ?_
    refine tr_ret ⟨.inr rfl, _, _, rfl, zzp, ?_⟩
    exact rfl
  have hc : (bif !b1 then true else !b2) = false := hc
  rw [if_neg (by rw [hc]; exact Bool.noConfusion)]
  repeat' first | refine zzs ?_ | refine zzr hnt rfl ?_ ?_ | refine zzd hnt rfl ?_ ?_ | refine zzb ?_ | refine zzk ?_
  · exact zzt
  repeat' first | refine zzs ?_ | refine zzb ?_ | refine zzk ?_
  refine tr_cond rfl (fun hc => ?_) (fun hc => ?_)
  · simp only [zz1, zz2, zz3, zz4, zz5, zz6, zz7, zz8] at hc
    rw [if_pos hc]
    repeat' first | refine zzs ?_ | refine zzb ?_ | refine zzk ?_
    first | refine zzr hnt rfl ?_ ?_ | refine zzd hnt rfl ?_ ?_
    · exact zza
    repeat' first | refine zzs ?_ | refine zzb ?_ | refine zzk ?_
    refine tr_ret ⟨.inr rfl, _, _, rfl, zzp, ?_⟩
    exact rfl
  simp only [zz1, zz2, zz3, zz4, zz5, zz6, zz7, zz8] at hc
  rw [if_neg hc]
  repeat' first | refine zzs ?_ | refine zzb ?_ | refine zzk ?_
  first | refine zzr hnt rfl ?_ ?_ | refine zzd hnt rfl ?_ ?_
  · exact zza
  repeat' first | refine zzs ?_ | refine zzb ?_ | refine zzk ?_
  refine tr_ret ⟨.inr rfl, _, _, rfl, zzp, ?_⟩
  exact rfl
end Go.Proofs.YthnadkafegmacaaGreatDoor
namespace Go.Proofs.YthnadkafegmacaaGreatDoor
open Go Go.RowKit Go.Proofs.YthnadkafegmacaaGreatDoor.Ab
set_option linter.unusedSimpArgs false
set_option linter.unusedVariables false

def fndF (l : List Colm) (s : Byt) : KR :=
  match l.find? (fun c => decide (c.n = s)) with
  | some c => (c.k, c.u, 0)
  | none => (0, false, 5)
mutual
def kdF (l : List Colm) : Ex → KR
  | .mk op v n ar => if op = 1 then (v.k, decide (v.k = 0), 0) else if op = 2 then fndF l n else if (kdA l [] ar).1 ≠ 0 then (0, false, (kdA l [] ar).1) else joF op (kdA l [] ar).2
def kdA (l : List Colm) : List Srt → List Ex → Int × List Srt
  | ss, [] => (0, ss)
  | ss, a :: r => if (kdF l a).2.2 ≠ 0 then ((kdF l a).2.2, []) else kdA l (ss ++ [((kdF l a).1, (kdF l a).2.1)]) r
end
theorem kdF_eq (l : List Colm) (x : Ex) : kdF l x = if x.op = 1 then (x.v.k, decide (x.v.k = 0), 0) else if x.op = 2 then fndF l x.n else if (kdA l [] x.ar).1 ≠ 0 then (0, false, (kdA l [] x.ar).1) else joF x.op (kdA l [] x.ar).2 := by
  cases x; rw [kdF]; rfl
theorem s2Put (ss : List Srt) (i : Nat) (h : ss.length = i) (h2 : i < 2) (x : Srt) : List.take (0 + i * 2) (eS2 ss) ++ eSo x ++ List.drop (0 + i * 2 + 2) (eS2 ss) = eS2 (ss ++ [x]) := by
  match ss, h with
  | [], h => subst h; rfl
  | [a], h => subst h; rfl
  | a :: b :: r, h => rw [← h] at h2; exact absurd h2 (by simp)
theorem ndL_mem : ∀ {l : List Ex}, ndL l = 0 → ∀ a ∈ l, ndF a = 0
  | [], _ => fun a ha => absurd ha List.not_mem_nil
  | b :: r, h => fun a ha => by
    rw [ndL] at h
    by_cases hb : ndF b = 0
    · rw [if_neg (not_not_intro hb)] at h
      rcases List.mem_cons.1 ha with rfl | ha
      · exact hb
      · exact ndL_mem h a ha
    · rw [if_pos hb] at h
      exact absurd h hb
theorem ndF_zero {x : Ex} (h : ndF x = 0) : nodeF x = 0 ∧ ∀ a ∈ x.ar, ndF a = 0 := by
  rw [ndF_eq] at h
  by_cases hb : nodeF x = 0
  · rw [if_neg (not_not_intro hb)] at h
    exact ⟨hb, ndL_mem h⟩
  · rw [if_pos hb] at h
    exact absurd h hb
theorem ndF_kid {x : Ex} (h : ndF x = 0) : ∀ a ∈ x.ar, ndF a = 0 := (ndF_zero h).2
theorem nodeF_ops {x : Ex} (h : nodeF x = 0) : 1 ≤ x.op ∧ x.op ≤ 20 ∧ (x.ar.length : Int) = wantF x.op := by
  unfold nodeF at h
  by_cases h1 : x.op < 1 ∨ 20 < x.op
  · rw [if_pos h1] at h; exact absurd h (by decide)
  · rw [if_neg h1] at h
    by_cases h2 : (x.ar.length : Int) ≠ wantF x.op
    · rw [if_pos h2] at h; exact absurd h (by decide)
    · exact ⟨by omega, by omega, Classical.not_not.1 h2⟩
theorem ndF_ar {x : Ex} (h : ndF x = 0) : x.op = 1 ∨ x.op = 2 ∨ x.ar.length ≤ 2 := by
  obtain ⟨_, _, h⟩ := nodeF_ops (ndF_zero h).1
  unfold wantF at h
  split at h
  · omega
  · split at h <;> omega
set_option maxRecDepth 10000 in
set_option maxHeartbeats 2000000 in
theorem of_step (x : Ex) (l : List Colm) (hw : x.op = 1 ∨ x.op = 2 ∨ x.ar.length ≤ 2) (ih : ∀ a ∈ x.ar, FnD Tryz.prog 177 [.agg (.es (eEx a)), .one (.e (eCols l))] (rSo (kdF l a))) : FnD Tryz.prog 177 [.agg (.es (eEx x)), .one (.e (eCols l))] (rSo (kdF l x)) := by
  refine FnD.len ⟨_, _, Tryz.func177, rfl, by kernel_rfl⟩ 1 rfl fun hl1 => ?_
  refine fn_intro (T := tab) tOk Tryz.func177 rfl (by kernel_rfl) (by simp [Tryz.ntmps177]) ?_
  intro X hX
  have hnt : X.nt = 76 := hX
  clear hX
  have hml := exsLen x.ar
  have hcl := colsLen l
  unfold maxLen at hl1
  rw [kdF_eq, eEx_eq]
  repeat' first | refine zzs ?_ | refine zzr hnt rfl ?_ ?_ | refine zzd hnt rfl ?_ ?_ | refine zzb ?_ | refine zzk ?_
  · exact zzt
  · exact zzt
  · exact zzt
  repeat' first | refine zzs ?_ | refine zzb ?_ | refine zzk ?_
  refine tr_cond rfl (fun hc => ?_) (fun hc => ?_)
  · have hc : x.op = 1 := of_decide_eq_true (show decide (x.op = 1) = true from hc)
    rw [if_pos hc]
    repeat' first | refine zzs ?_ | refine zzr hnt rfl ?_ ?_ | refine zzd hnt rfl ?_ ?_ | refine zzb ?_ | refine zzk ?_
    · exact zzt
    repeat' first | refine zzs ?_ | refine zzb ?_ | refine zzk ?_
    refine tr_ret ⟨.inr rfl, _, _, rfl, zzp, ?_⟩
    exact rfl
  have n1 : ¬ x.op = 1 := of_decide_eq_false (show decide (x.op = 1) = false from hc)
  clear hc
  rw [if_neg n1]
  repeat' first | refine zzs ?_ | refine zzr hnt rfl ?_ ?_ | refine zzd hnt rfl ?_ ?_ | refine zzb ?_ | refine zzk ?_
  · exact zzt
  repeat' first | refine zzs ?_ | refine zzb ?_ | refine zzk ?_
  refine tr_cond rfl (fun hc => ?_) (fun hc => ?_)
  · have hc : x.op = 2 := of_decide_eq_true (show decide (x.op = 2) = true from hc)
    rw [if_pos hc]
    repeat' first | refine zzs ?_ | refine zzr hnt rfl ?_ ?_ | refine zzd hnt rfl ?_ ?_ | refine zzb ?_ | refine zzk ?_
    · exact zzt
    repeat' first | refine zzs ?_ | refine zzb ?_ | refine zzk ?_
    refine tr_loop (σ := Nat) (fun i => St.of [(2, .one (.ptr 2 0 0)), (4, .one (.ptr 4 0 0)), (27, .one (.e (eCols l))), (28, .one (.e (eI ((l.map eCol).length : Int)))), (29, .one (.e (eI (i : Int))))] [(2, ⟨0, .box (.es [eI x.op, eI x.v.k, eI x.v.i, eQ x.v.b, eT x.v.t, eT x.n, .sl (eExs x.ar)]), 0⟩), (4, ⟨0, .box (.es [eI 0, eBl false]), 0⟩)]) (fun i => fndF (l.drop i) x.n = fndF l x.n ∧ i ≤ l.length) (fun i => l.length - i) (0) (le_of (ad := []) ⟨zzl, zzl, zzl, zzl, zzl, trivial⟩ (memOk_box rfl rfl rfl (memOk_box rfl rfl rfl trivial))) ⟨rfl, Nat.zero_le _⟩ ?_
    rintro i ⟨hi, il⟩
    repeat' first | refine zzs ?_ | refine zzr hnt rfl ?_ ?_ | refine zzd hnt rfl ?_ ?_ | refine zzb ?_ | refine zzk ?_
    · exact zzt
    repeat' first | refine zzs ?_ | refine zzb ?_ | refine zzk ?_
    refine tr_cond rfl (fun hc => ?_) (fun hc => ?_)
    · simp only [zz1, zz2, zz3, zz4, zz5, zz6, zz7, zz8] at hc
      (try simp only [hcl] at hc)
      (try simp only [zz1, zz2, zz3, zz4, zz5, zz6, zz7, zz8] at hc)
      have hlt : i < l.length := by omega
      unfold fndF at hi
      rw [drop_getD (d := col0) hlt, List.find?_cons] at hi
      have hg := colsGet l i hlt
      repeat' first | refine zzs ?_ | refine zzb ?_ | refine zzk ?_
      first | refine zzr hnt rfl ?_ ?_ | refine zzd hnt rfl ?_ ?_
      · rw [Int.toNat_natCast, hg, hcl]
        exact zza
      rw [Int.toNat_natCast, hg]
      generalize l.getD i col0 = c at *
      rw [colBox]
      repeat' first | refine zzs ?_ | refine zzb ?_ | refine zzk ?_
      first | refine zzr hnt rfl ?_ ?_ | refine zzd hnt rfl ?_ ?_
      · exact zza
      repeat' first | refine zzs ?_ | refine zzb ?_ | refine zzk ?_
      refine tr_cond rfl (fun hc => ?_) (fun hc => ?_)
      · have hc : strEq (strB c.n) (strB x.n) = true := hc
        rw [strEq_B] at hc
        rw [hc] at hi
        have hi : (c.k, c.u, (0 : Int)) = fndF l x.n := hi
        rw [← hi]
        repeat' first | refine zzs ?_ | refine zzr hnt rfl ?_ ?_ | refine zzd hnt rfl ?_ ?_ | refine zzb ?_ | refine zzk ?_
        · exact zzt
        repeat' first | refine zzs ?_ | refine zzb ?_ | refine zzk ?_
        refine tr_ret ⟨.inr rfl, _, _, rfl, zzp, ?_⟩
        exact rfl
      have hc : strEq (strB c.n) (strB x.n) = false := hc
      rw [strEq_B] at hc
      rw [hc] at hi
      have hi : fndF (l.drop (i + 1)) x.n = fndF l x.n := hi
      repeat' first | refine zzs ?_ | refine zzr hnt rfl ?_ ?_ | refine zzd hnt rfl ?_ ?_ | refine zzb ?_ | refine zzk ?_
      · exact zzt
      refine ⟨i + 1, ⟨hi, by omega⟩, by omega, le_of (ad := []) ⟨zzl, zzl, zzl, zzl, zzl, trivial⟩ (memOk_box rfl rfl rfl (memOk_box rfl rfl rfl trivial))⟩
    simp only [zz1, zz2, zz3, zz4, zz5, zz6, zz7, zz8] at hc
    (try simp only [hcl] at hc)
    (try simp only [zz1, zz2, zz3, zz4, zz5, zz6, zz7, zz8] at hc)
    refine tr_exit ?_
    rw [List.drop_eq_nil_of_le (by omega)] at hi
    have hi : ((0 : Int), false, (5 : Int)) = fndF l x.n := hi
    rw [← hi]
    repeat' first | refine zzs ?_ | refine zzr hnt rfl ?_ ?_ | refine zzd hnt rfl ?_ ?_ | refine zzb ?_ | refine zzk ?_
    · exact zzt
    repeat' first | refine zzs ?_ | refine zzb ?_ | refine zzk ?_
    refine tr_ret ⟨.inr rfl, _, _, rfl, zzp, ?_⟩
    exact rfl
  have n2 : ¬ x.op = 2 := of_decide_eq_false (show decide (x.op = 2) = false from hc)
  clear hc
  rw [if_neg n2]
  have h2 : x.ar.length ≤ 2 := by omega
  repeat' first | refine zzs ?_ | refine zzr hnt rfl ?_ ?_ | refine zzd hnt rfl ?_ ?_ | refine zzb ?_ | refine zzk ?_
  · exact zzt
  · exact zzt
  repeat' first | refine zzs ?_ | refine zzb ?_ | refine zzk ?_
  refine tr_loop (σ := Nat × List Srt) (fun y => St.of [(1, .one (.e (eCols l))), (2, .one (.ptr 2 0 0)), (4, .one (.ptr 4 0 0)), (8, .one (.ptr 8 0 0)), (46, .one (.e (.sl (eExs x.ar)))), (47, .one (.e (eI ((eExs x.ar).length : Int)))), (48, .one (.e (eI (y.1 : Int))))] [(2, ⟨0, .box (.es [eI x.op, eI x.v.k, eI x.v.i, eQ x.v.b, eT x.v.t, eT x.n, .sl (eExs x.ar)]), 0⟩), (4, ⟨0, .box (.es [eI 0, eBl false]), 0⟩), (8, ⟨0, .box (.es (eS2 y.2)), 0⟩)]) (fun y => kdA l y.2 (x.ar.drop y.1) = kdA l [] x.ar ∧ y.2.length = y.1 ∧ y.1 ≤ x.ar.length) (fun y => x.ar.length - y.1) ((0, [])) (le_of (ad := []) ⟨zzl, zzl, zzl, zzl, zzl, zzl, zzl, trivial⟩ (memOk_box rfl rfl rfl (memOk_box rfl rfl rfl (memOk_box rfl rfl rfl trivial)))) ⟨rfl, rfl, Nat.zero_le _⟩ ?_
  rintro ⟨i, ss⟩ ⟨hi, hs, il⟩
  dsimp only at hi hs il ⊢
  repeat' first | refine zzs ?_ | refine zzr hnt rfl ?_ ?_ | refine zzd hnt rfl ?_ ?_ | refine zzb ?_ | refine zzk ?_
  · exact zzt
  repeat' first | refine zzs ?_ | refine zzb ?_ | refine zzk ?_
  refine tr_cond rfl (fun hc => ?_) (fun hc => ?_)
  · simp only [zz1, zz2, zz3, zz4, zz5, zz6, zz7, zz8] at hc
    (try simp only [hml] at hc)
    (try simp only [zz1, zz2, zz3, zz4, zz5, zz6, zz7, zz8] at hc)
    have hlt : i < x.ar.length := by omega
    rw [drop_getD (d := ex0) hlt, kdA] at hi
    have hg := exsGet x.ar i hlt
    have ham : x.ar.getD i ex0 ∈ x.ar := getD_mem hlt
    have h1 := ih _ ham
    repeat' first | refine zzs ?_ | refine zzb ?_ | refine zzk ?_
    first | refine zzr hnt rfl ?_ ?_ | refine zzd hnt rfl ?_ ?_
    · rw [Int.toNat_natCast, hg, eEx_eq, hml]
      exact zza
    rw [Int.toNat_natCast, hg, eEx_eq (x.ar.getD i ex0)]
    rw [eEx_eq] at h1
    generalize x.ar.getD i ex0 = a at *
    generalize kdF l a = r at *
    clear ham hg
    repeat' first | refine zzs ?_ | refine zzb ?_ | refine zzk ?_
    refine tr_region (zzx hnt rfl ?_ (call rfl rfl rfl rfl rfl rfl rfl hnt (h1) (zzx hnt rfl ?_ (Lex.nil _)))) ?_
    · exact zzt
    · exact zzt
    repeat' first | refine zzs ?_ | refine zzr hnt rfl ?_ ?_ | refine zzd hnt rfl ?_ ?_ | refine zzb ?_ | refine zzk ?_
    · exact zzt
    repeat' first | refine zzs ?_ | refine zzb ?_ | refine zzk ?_
    refine tr_cond rfl (fun hc => ?_) (fun hc => ?_)
    · simp only [zz1, zz2, zz3, zz4, zz5, zz6, zz7, zz8] at hc
      have hc : r.2.2 ≠ 0 := hc
      rw [if_pos hc] at hi
      rw [← hi, if_pos hc]
      repeat' first | refine zzs ?_ | refine zzr hnt rfl ?_ ?_ | refine zzd hnt rfl ?_ ?_ | refine zzb ?_ | refine zzk ?_
      · exact zzt
      repeat' first | refine zzs ?_ | refine zzb ?_ | refine zzk ?_
      refine tr_ret ⟨.inr rfl, _, _, rfl, zzp, ?_⟩
      exact rfl
    simp only [zz1, zz2, zz3, zz4, zz5, zz6, zz7, zz8] at hc
    have hc : r.2.2 = 0 := hc
    rw [if_neg (not_not_intro hc)] at hi
    have f4 : 0 + ((i : Int).toNat) * 2 + 2 ≤ (Cs.es (eS2 ss)).len := by show 0 + i * 2 + 2 ≤ 4; omega
    repeat' first | refine zzs ?_ | refine zzb ?_ | refine zzk ?_
    first | refine zzr hnt rfl ?_ ?_ | refine zzd hnt rfl ?_ ?_
    · exact zza
    repeat' first | refine zzs ?_ | refine zzr hnt rfl ?_ ?_ | refine zzd hnt rfl ?_ ?_ | refine zzb ?_ | refine zzk ?_
    · exact zzt
    refine ⟨(i + 1, ss ++ [(r.1, r.2.1)]), ⟨hi, by dsimp only; rw [List.length_append, hs]; rfl, by dsimp only; omega⟩, by dsimp only; omega, le_of (ad := []) ⟨zzl, zzl, zzl, zzl, zzl, zzl, zzl, trivial⟩ (memOk_box rfl rfl rfl (memOk_box rfl rfl rfl (memOk_box rfl rfl (s2Put ss i hs (by omega) (r.1, r.2.1)) trivial)))⟩
  simp only [zz1, zz2, zz3, zz4, zz5, zz6, zz7, zz8] at hc
  (try simp only [hml] at hc)
  (try simp only [zz1, zz2, zz3, zz4, zz5, zz6, zz7, zz8] at hc)
  refine tr_exit ?_
  rw [List.drop_eq_nil_of_le (by omega), kdA] at hi
  rw [← hi, if_neg (fun h => h rfl)]
  have h3 := joined_fn x.op (eExs x.ar).length ss (by omega) (by omega)
  generalize joF x.op ss = r at *
  repeat' first | refine zzs ?_ | refine zzb ?_ | refine zzk ?_
  refine tr_region (zzx hnt rfl ?_ (call rfl rfl rfl rfl rfl rfl rfl hnt (h3) (zzx hnt rfl ?_ (Lex.nil _)))) ?_
  · exact zzt
  · exact zzt
  repeat' first | refine zzs ?_ | refine zzb ?_ | refine zzk ?_
  refine tr_ret ⟨.inr rfl, _, _, rfl, zzp, ?_⟩
  exact rfl
theorem of_all (l : List Colm) : ∀ (m : Nat) (x : Ex), nodes x ≤ m → exOk x → ndF x = 0 → FnD Tryz.prog 177 [.agg (.es (eEx x)), .one (.e (eCols l))] (rSo (kdF l x))
  | 0, x, h, _, _ => absurd h (by have := nodes_pos x; omega)
  | m + 1, x, h, ho, hn => of_step x l (ndF_ar hn) fun a ha => of_all l m a (kid_nodes h ha) ((exOk_kids ho).2 a ha) (ndF_kid hn a ha)
def rK (r : KR) : D := .tup [(false, .es [eI r.1]), (false, .es [eBl r.2.1]), (false, .es [eI r.2.2])]
theorem akF_bad (k g : Int) : ∀ (l : List Srt) (u : Bool), (akF k g u l).2.2 ≠ 0 → akF k g u l = (0, false, (akF k g u l).2.2)
  | [], u, h => absurd rfl h
  | x :: r, u, h => by
    rw [akF] at h ⊢
    by_cases hb : ftB x k = false
    · rw [if_pos hb]
    · rw [if_neg hb] at h ⊢
      exact akF_bad k g r _ h
theorem kdF_bad (l : List Colm) (x : Ex) (h : (kdF l x).2.2 ≠ 0) : kdF l x = (0, false, (kdF l x).2.2) := by
  rw [kdF_eq] at h ⊢
  split at h
  · exact absurd rfl h
  · rename_i n1
    rw [if_neg n1]
    split at h
    · rename_i n2
      rw [if_pos n2]
      unfold fndF at h ⊢
      cases hf : l.find? (fun c => decide (c.n = x.n)) with
      | some c => rw [hf] at h; exact absurd rfl h
      | none => rfl
    · rename_i n2
      rw [if_neg n2]
      split at h
      · rename_i n3
        rw [if_pos n3]
      · rename_i n3
        rw [if_neg n3]
        unfold joF at h ⊢
        split at h
        · rename_i h1; rw [if_pos h1]; exact akF_bad _ _ _ _ h
        rename_i h1; rw [if_neg h1]
        split at h
        · rename_i h1; rw [if_pos h1]; exact akF_bad _ _ _ _ h
        rename_i h1; rw [if_neg h1]
        split at h
        · rename_i h1; rw [if_pos h1]; exact akF_bad _ _ _ _ h
        rename_i h1; rw [if_neg h1]
        split at h
        · rename_i h1; rw [if_pos h1]; exact akF_bad _ _ _ _ h
        rename_i h1; rw [if_neg h1]
        split at h
        · exact absurd rfl h
        rename_i h1; rw [if_neg h1]
        unfold twF at h ⊢
        split at h
        · rename_i h1; rw [if_pos h1]
        · split at h <;> exact absurd rfl h
theorem exF_nd {x : Ex} (h : exF x = 0) : ndF x = 0 := by
  unfold exF at h
  split at h
  · exact h
  · exact absurd h (by decide)
def koF (x : Ex) (l : List Colm) : KR := if exF x ≠ 0 then (0, false, exF x) else if colsF l ≠ 0 then (0, false, colsF l) else kdF l x
set_option maxRecDepth 10000 in
set_option maxHeartbeats 2000000 in
theorem Of_fn (x : Ex) (l : List Colm) (h : exOk x) (hn : ∀ c ∈ l, c.n.length ≤ maxLen) : FnG Tryz.prog 102 gK [.agg (.es (eEx x)), .one (.e (eCols l))] (rK (koF x l)) := by
  refine fn_introG (T := tab) tOk Tryz.func102 rfl (by kernel_rfl) (by simp [Tryz.ntmps102]) ?_
  intro X hX
  have hnt : X.nt = 33 := hX
  clear hX
  have h1 := exprCheck_fn x h
  have h2 := columns_fn l hn
  have hx7 := ex7 x
  have f2 : 0 + 7 ≤ (Cs.es (eEx x)).len := by show 0 + 7 ≤ (eEx x).length; rw [hx7]; exact Nat.le_refl _
  unfold koF
  rw [← exAll x] at h1
  have hz : exF x = 0 → ndF x = 0 := exF_nd
  generalize exF x = e at *
  generalize colsF l = f at *
  repeat' first | refine zzs ?_ | refine zzr hnt rfl ?_ ?_ | refine zzd hnt rfl ?_ ?_ | refine zzb ?_ | refine zzk ?_
  · exact zzt
  repeat' first | refine zzs ?_ | refine zzb ?_ | refine zzk ?_
  refine tr_region (zzx hnt rfl ?_ (callV rfl rfl rfl rfl rfl rfl rfl hnt rfl (h1) (zzx hnt rfl ?_ (Lex.nil _)))) ?_
  · exact zza
  · exact zzt
  repeat' first | refine zzs ?_ | refine zzr hnt rfl ?_ ?_ | refine zzd hnt rfl ?_ ?_ | refine zzb ?_ | refine zzk ?_
  · exact zzt
  repeat' first | refine zzs ?_ | refine zzb ?_ | refine zzk ?_
  refine tr_cond rfl (fun hc => ?_) (fun hc => ?_)
  · simp only [zz1, zz2, zz3, zz4, zz5, zz6, zz7, zz8] at hc
    rw [if_pos hc]
    repeat' first | refine zzs ?_ | refine zzr hnt rfl ?_ ?_ | refine zzd hnt rfl ?_ ?_ | refine zzb ?_ | refine zzk ?_
    · exact zzt
    exact tr_ret ⟨.inr rfl, _, _, rfl, trivial, rfl⟩
  simp only [zz1, zz2, zz3, zz4, zz5, zz6, zz7, zz8] at hc
  rw [if_neg (not_not_intro hc)]
  have h3 := of_all l (nodes x) x (Nat.le_refl _) h (hz hc)
  rw [← exAll x] at h3
  clear h1 hz
  repeat' first | refine zzs ?_ | refine zzb ?_ | refine zzk ?_
  refine tr_region (zzx hnt rfl ?_ (callV rfl rfl rfl rfl rfl rfl rfl hnt rfl (h2) (zzx hnt rfl ?_ (Lex.nil _)))) ?_
  · exact zzt
  · exact zzt
  repeat' first | refine zzs ?_ | refine zzr hnt rfl ?_ ?_ | refine zzd hnt rfl ?_ ?_ | refine zzb ?_ | refine zzk ?_
  · exact zzt
  repeat' first | refine zzs ?_ | refine zzb ?_ | refine zzk ?_
  refine tr_cond rfl (fun hc => ?_) (fun hc => ?_)
  · simp only [zz1, zz2, zz3, zz4, zz5, zz6, zz7, zz8] at hc
    rw [if_pos hc]
    repeat' first | refine zzs ?_ | refine zzr hnt rfl ?_ ?_ | refine zzd hnt rfl ?_ ?_ | refine zzb ?_ | refine zzk ?_
    · exact zzt
    exact tr_ret ⟨.inr rfl, _, _, rfl, trivial, rfl⟩
  simp only [zz1, zz2, zz3, zz4, zz5, zz6, zz7, zz8] at hc
  rw [if_neg (not_not_intro hc)]
  have hb := kdF_bad l x
  generalize kdF l x = r at *
  repeat' first | refine zzs ?_ | refine zzb ?_ | refine zzk ?_
  refine tr_region (zzx hnt rfl ?_ (call rfl rfl rfl rfl rfl rfl rfl hnt (h3) (zzx hnt rfl ?_ (Lex.nil _)))) ?_
  · exact zza
  · exact zzt
  repeat' first | refine zzs ?_ | refine zzr hnt rfl ?_ ?_ | refine zzd hnt rfl ?_ ?_ | refine zzb ?_ | refine zzk ?_
  · exact zzt
  repeat' first | refine zzs ?_ | refine zzb ?_ | refine zzk ?_
  refine tr_cond rfl (fun hc => ?_) (fun hc => ?_)
  · simp only [zz1, zz2, zz3, zz4, zz5, zz6, zz7, zz8] at hc
    rw [hb hc]
    repeat' first | refine zzs ?_ | refine zzr hnt rfl ?_ ?_ | refine zzd hnt rfl ?_ ?_ | refine zzb ?_ | refine zzk ?_
    · exact zzt
    exact tr_ret ⟨.inr rfl, _, _, rfl, trivial, rfl⟩
  simp only [zz1, zz2, zz3, zz4, zz5, zz6, zz7, zz8] at hc
  have hc : r.2.2 = 0 := hc
  repeat' first | refine zzs ?_ | refine zzb ?_ | refine zzk ?_
  first | refine zzr hnt rfl ?_ ?_ | refine zzd hnt rfl ?_ ?_
  · exact zza
  refine tr_ret ⟨.inr rfl, _, _, rfl, zzp, ?_⟩
  show D.tup [(false, .es [eI r.1]), (false, .es [eBl r.2.1]), (false, .es [eI 0])] = rK r
  unfold rK
  rw [hc]
end Go.Proofs.YthnadkafegmacaaGreatDoor
namespace Go.Proofs.YthnadkafegmacaaGreatDoor
open Go Go.RowKit Go.Proofs.YthnadkafegmacaaGreatDoor.Ab
set_option linter.unusedSimpArgs false
set_option linter.unusedVariables false

def afF (op : Int) : Int × Int := if op = 3 ∨ op = 5 ∨ op = 6 ∨ op = 7 ∨ op = 8 then (2, 2) else if op = 4 ∨ op = 15 ∨ op = 16 then (1, 1) else if op = 18 then (4, 2) else if op = 19 then (4, 4) else if op = 20 then (0, 0) else (0, 1)
abbrev KS := Bool × Bool × Int × Bool
def asK (k x : Int) : Int := if k = 0 then x else k
def stF (op : Int) (z : KS) (x : Srt) : KS :=
  if op = 17 ∨ x.1 = 0 then ((bif z.1 then true else x.2), (bif z.2.1 then x.2 else false), z.2.2.1, z.2.2.2)
  else ((bif z.1 then true else x.2), (bif z.2.1 then x.2 else false), asK z.2.2.1 x.1, (bif z.2.2.2 then true else !decide (x.1 = asK z.2.2.1 x.1)))
def raF (op g : Int) (z : KS) : KR := if z.2.2.2 = true then (0, false, 2) else if op = 17 then (1, false, 0) else if op = 20 then (z.2.2.1, z.2.1, 0) else (g, z.1, 0)
theorem ra_asks1 (op k g : Int) (hop : op ≠ 17 ∧ op ≠ 20) (hk : k ≠ 0) (a : Srt) : raF op g ([a].foldl (stF op) (false, true, k, false)) = akF k g false [a] := by
  obtain ⟨h17, h20⟩ := hop
  obtain ⟨x, u⟩ := a
  simp only [List.foldl_cons, List.foldl_nil, akF, ftB, stF, raF, asK, if_neg hk]
  by_cases h1 : x = 0
  · subst h1; simp [h17, h20, hk, Ne.symm hk]
  · by_cases h2 : x = k
    · subst h2; simp [h17, h20, h1]
    · simp [h17, h20, h1, h2]
theorem ra_asks2 (op k g : Int) (hop : op ≠ 17 ∧ op ≠ 20) (hk : k ≠ 0) (a b : Srt) : raF op g ([a, b].foldl (stF op) (false, true, k, false)) = akF k g false [a, b] := by
  obtain ⟨h17, h20⟩ := hop
  obtain ⟨x, u⟩ := a
  obtain ⟨y, v⟩ := b
  simp only [List.foldl_cons, List.foldl_nil, akF, ftB, stF, raF, asK, if_neg hk]
  by_cases h1 : x = 0 <;> by_cases h2 : x = k <;> by_cases h3 : y = 0 <;> by_cases h4 : y = k <;> simp [h17, h20, hk, h1, h2, h3, h4, Ne.symm hk] <;> first | omega | (cases u <;> cases v <;> rfl) | skip
theorem ra_17 (a : Srt) : raF 17 1 ([a].foldl (stF 17) (false, true, 0, false)) = (1, false, 0) := by
  simp [stF, raF]
theorem ra_two (op g : Int) (h : op ≠ 17) (hg : op ≠ 20 → g = 1) (a b : Srt) : raF op g ([a, b].foldl (stF op) (false, true, 0, false)) = twF op a b := by
  obtain ⟨x, u⟩ := a
  obtain ⟨y, v⟩ := b
  simp only [List.foldl_cons, List.foldl_nil, twF, wiF, ftB, stF, raF, asK]
  by_cases h1 : x = 0 <;> by_cases h3 : y = 0 <;> by_cases h4 : y = x <;> by_cases h20 : op = 20 <;> simp [h, h1, h3, h4, h20, hg] <;> first | omega | (cases u <;> cases v <;> simp [hg, h20]) | skip
theorem raEq (op : Int) (h1 : 3 ≤ op) (h2 : op ≤ 20) (ss : List Srt) (hl : (ss.length : Int) = wantF op) : raF op (afF op).2 (ss.foldl (stF op) (false, true, (afF op).1, false)) = joF op ss := by
  unfold wantF at hl
  rw [if_neg (by omega)] at hl
  unfold afF joF
  by_cases g1 : op = 3 ∨ op = 5 ∨ op = 6 ∨ op = 7 ∨ op = 8
  · rw [if_pos g1, if_pos g1]
    match ss, hl with
    | [], hl => exact absurd hl (by split <;> decide)
    | [a], _ => exact ra_asks1 op 2 2 (by omega) (by decide) a
    | [a, b], _ => exact ra_asks2 op 2 2 (by omega) (by decide) a b
    | a :: b :: c :: r, hl => exact absurd hl (by simp only [List.length_cons]; split <;> omega)
  rw [if_neg g1, if_neg g1]
  by_cases g2 : op = 4 ∨ op = 15 ∨ op = 16
  · rw [if_pos g2, if_pos g2]
    match ss, hl with
    | [], hl => exact absurd hl (by split <;> decide)
    | [a], _ => exact ra_asks1 op 1 1 (by omega) (by decide) a
    | [a, b], _ => exact ra_asks2 op 1 1 (by omega) (by decide) a b
    | a :: b :: c :: r, hl => exact absurd hl (by simp only [List.length_cons]; split <;> omega)
  rw [if_neg g2, if_neg g2]
  by_cases g3 : op = 18
  · rw [if_pos g3, if_pos g3]
    match ss, hl with
    | [], hl => exact absurd hl (by split <;> decide)
    | [a], _ => exact ra_asks1 op 4 2 (by omega) (by decide) a
    | [a, b], _ => exact ra_asks2 op 4 2 (by omega) (by decide) a b
    | a :: b :: c :: r, hl => exact absurd hl (by simp only [List.length_cons]; split <;> omega)
  rw [if_neg g3, if_neg g3]
  by_cases g4 : op = 19
  · rw [if_pos g4, if_pos g4]
    match ss, hl with
    | [], hl => exact absurd hl (by split <;> decide)
    | [a], _ => exact ra_asks1 op 4 4 (by omega) (by decide) a
    | [a, b], _ => exact ra_asks2 op 4 4 (by omega) (by decide) a b
    | a :: b :: c :: r, hl => exact absurd hl (by simp only [List.length_cons]; split <;> omega)
  rw [if_neg g4, if_neg g4]
  by_cases g5 : op = 17
  · subst g5
    rw [if_neg (by decide), if_pos rfl]
    rw [if_pos (by decide)] at hl
    match ss, hl with
    | [], hl => exact absurd hl (by decide)
    | [a], _ => exact ra_17 a
    | a :: b :: r, hl => exact absurd hl (by simp only [List.length_cons]; omega)
  rw [if_neg g5]
  rw [if_neg (by omega)] at hl
  match ss, hl with
  | [], hl => exact absurd hl (by decide)
  | [a], hl => exact absurd hl (by simp only [List.length_cons, List.length_nil]; decide)
  | [a, b], _ =>
    by_cases g6 : op = 20
    · rw [if_pos g6]; exact ra_two op 0 g5 (fun h => absurd g6 h) a b
    · rw [if_neg g6]; exact ra_two op 1 g5 (fun _ => rfl) a b
  | a :: b :: c :: r, hl => exact absurd hl (by simp only [List.length_cons]; omega)

def uniq (l : List Colm) : Prop := ∀ i, i < l.length → hasN (l.take i) (l.getD i col0).n = false
theorem clF_uniq : ∀ (r p : List Colm), clF p r = 0 → ∀ i, i < r.length → hasN (p ++ r.take i) (r.getD i col0).n = false
  | [], _, _ => fun i hi => absurd hi (Nat.not_lt_zero _)
  | c :: r, p, h => by
    rw [clF] at h
    split at h
    · exact absurd h (by decide)
    · split at h
      · exact absurd h (by decide)
      · split at h
        · exact absurd h (by decide)
        · rename_i h3
          intro i hi
          cases i with
          | zero => rw [List.take_zero, List.append_nil]; exact Bool.eq_false_iff.2 h3
          | succ i =>
            have := clF_uniq r (p ++ [c]) h i (by simpa using hi)
            rw [List.append_assoc] at this
            exact this
theorem colsF_uniq {l : List Colm} (h : colsF l = 0) : uniq l := by
  unfold colsF at h
  split at h
  · exact absurd h (by decide)
  · exact fun i hi => clF_uniq l [] h i hi
theorem colAt_find (l : List Colm) (s : Byt) (hu : uniq l) : ∀ i, i ≤ l.length → (if colAtN l s i < 0 then (l.take i).find? (fun c => decide (c.n = s)) = none else (l.take i).find? (fun c => decide (c.n = s)) = some (l.getD (colAtN l s i).toNat col0))
  | 0, _ => by rw [colAtN, if_pos (by decide)]; rfl
  | i + 1, h => by
    have ih := colAt_find l s hu i (by omega)
    rw [take_succ (d := col0) (by omega), List.find?_append, colAtN]
    by_cases hc : (l.getD i col0).n = s
    · rw [if_pos hc, if_neg (by omega)]
      have hn := hu i (by omega)
      rw [hc] at hn
      have hnone : (l.take i).find? (fun c => decide (c.n = s)) = none := by
        rw [List.find?_eq_none]
        intro c hcm hcs
        unfold hasN at hn
        rw [List.any_eq_false] at hn
        exact hn c hcm hcs
      rw [hnone, Option.none_or, List.find?_cons, decide_eq_true hc, Int.toNat_natCast]
    · rw [if_neg hc]
      have hl : List.find? (fun c => decide (c.n = s)) [l.getD i col0] = none := by rw [List.find?_cons, decide_eq_false hc]; rfl
      rw [hl, Option.or_none]
      exact ih
theorem fndF_at (l : List Colm) (s : Byt) (hu : uniq l) : fndF l s = if colAt l s < 0 then (0, false, 5) else ((l.getD (colAt l s).toNat col0).k, (l.getD (colAt l s).toNat col0).u, 0) := by
  have h := colAt_find l s hu l.length (Nat.le_refl _)
  rw [List.take_length] at h
  unfold fndF colAt
  split at h
  · rename_i h1; rw [if_pos h1, h]
  · rename_i h1; rw [if_neg h1, h]
end Go.Proofs.YthnadkafegmacaaGreatDoor
namespace Go.Proofs.YthnadkafegmacaaGreatDoor
open Go Go.RowKit Go.Proofs.YthnadkafegmacaaGreatDoor.Ab
set_option linter.unusedSimpArgs false
set_option linter.unusedVariables false

set_option maxRecDepth 10000 in
set_option maxHeartbeats 2000000 in
theorem asksFor_fn (op : Int) : FnD Tryz.prog 181 [.one (.e (eI op))] (.tup [(false, .es [eI (afF op).1]), (false, .es [eI (afF op).2])]) := by
  refine fn_intro (T := tab) tOk Tryz.func181 rfl (by kernel_rfl) (by simp [Tryz.ntmps181]) ?_
  intro X hX
  have hnt : X.nt = 21 := hX
  clear hX
  unfold afF
  repeat' first | refine zzs ?_ | refine zzr hnt rfl ?_ ?_ | refine zzd hnt rfl ?_ ?_ | refine zzb ?_ | refine zzk ?_
  · exact zzt
  · exact zzt
  repeat' first | refine zzs ?_ | refine zzr hnt rfl ?_ ?_ | refine zzd hnt rfl ?_ ?_ | refine zzb ?_ | refine zzk ?_
  · exact zzt
  repeat' first | refine zzs ?_ | refine zzb ?_ | refine zzk ?_
  refine tr_cond rfl (fun hc => ?_) (fun hc => ?_)
  · have ho : op = 3 := of_decide_eq_true hc
    rw [if_pos (by omega)]
    repeat' first | refine zzs ?_ | refine zzb ?_ | refine zzk ?_
    repeat' first | refine zzs ?_ | refine zzb ?_ | refine zzk ?_
    refine tr_cond rfl (fun hc => ?_) (fun hc => ?_)
    · repeat' first | refine zzs ?_ | refine zzr hnt rfl ?_ ?_ | refine zzd hnt rfl ?_ ?_ | refine zzb ?_ | refine zzk ?_
      · exact zzt
      repeat' first | refine zzs ?_ | refine zzb ?_ | refine zzk ?_
      refine tr_ret ⟨.inr rfl, _, _, rfl, zzp, ?_⟩
      exact rfl
    exact absurd ho (of_decide_eq_false hc)
  have n3 : op ≠ 3 := of_decide_eq_false hc
  clear hc
  repeat' first | refine zzs ?_ | refine zzr hnt rfl ?_ ?_ | refine zzd hnt rfl ?_ ?_ | refine zzb ?_ | refine zzk ?_
  · exact zzt
  repeat' first | refine zzs ?_ | refine zzb ?_ | refine zzk ?_
  refine tr_cond rfl (fun hc => ?_) (fun hc => ?_)
  · have ho : op = 5 := of_decide_eq_true hc
    rw [if_pos (by omega)]
    repeat' first | refine zzs ?_ | refine zzb ?_ | refine zzk ?_
    repeat' first | refine zzs ?_ | refine zzb ?_ | refine zzk ?_
    refine tr_cond rfl (fun hc => ?_) (fun hc => ?_)
    · repeat' first | refine zzs ?_ | refine zzr hnt rfl ?_ ?_ | refine zzd hnt rfl ?_ ?_ | refine zzb ?_ | refine zzk ?_
      · exact zzt
      repeat' first | refine zzs ?_ | refine zzb ?_ | refine zzk ?_
      refine tr_ret ⟨.inr rfl, _, _, rfl, zzp, ?_⟩
      exact rfl
    exact absurd ho (of_decide_eq_false hc)
  have n5 : op ≠ 5 := of_decide_eq_false hc
  clear hc
  repeat' first | refine zzs ?_ | refine zzr hnt rfl ?_ ?_ | refine zzd hnt rfl ?_ ?_ | refine zzb ?_ | refine zzk ?_
  · exact zzt
  repeat' first | refine zzs ?_ | refine zzb ?_ | refine zzk ?_
  refine tr_cond rfl (fun hc => ?_) (fun hc => ?_)
  · have ho : op = 6 := of_decide_eq_true hc
    rw [if_pos (by omega)]
    repeat' first | refine zzs ?_ | refine zzb ?_ | refine zzk ?_
    repeat' first | refine zzs ?_ | refine zzb ?_ | refine zzk ?_
    refine tr_cond rfl (fun hc => ?_) (fun hc => ?_)
    · repeat' first | refine zzs ?_ | refine zzr hnt rfl ?_ ?_ | refine zzd hnt rfl ?_ ?_ | refine zzb ?_ | refine zzk ?_
      · exact zzt
      repeat' first | refine zzs ?_ | refine zzb ?_ | refine zzk ?_
      refine tr_ret ⟨.inr rfl, _, _, rfl, zzp, ?_⟩
      exact rfl
    exact absurd ho (of_decide_eq_false hc)
  have n6 : op ≠ 6 := of_decide_eq_false hc
  clear hc
  repeat' first | refine zzs ?_ | refine zzr hnt rfl ?_ ?_ | refine zzd hnt rfl ?_ ?_ | refine zzb ?_ | refine zzk ?_
  · exact zzt
  repeat' first | refine zzs ?_ | refine zzb ?_ | refine zzk ?_
  refine tr_cond rfl (fun hc => ?_) (fun hc => ?_)
  · have ho : op = 7 := of_decide_eq_true hc
    rw [if_pos (by omega)]
    repeat' first | refine zzs ?_ | refine zzb ?_ | refine zzk ?_
    repeat' first | refine zzs ?_ | refine zzb ?_ | refine zzk ?_
    refine tr_cond rfl (fun hc => ?_) (fun hc => ?_)
    · repeat' first | refine zzs ?_ | refine zzr hnt rfl ?_ ?_ | refine zzd hnt rfl ?_ ?_ | refine zzb ?_ | refine zzk ?_
      · exact zzt
      repeat' first | refine zzs ?_ | refine zzb ?_ | refine zzk ?_
      refine tr_ret ⟨.inr rfl, _, _, rfl, zzp, ?_⟩
      exact rfl
    exact absurd ho (of_decide_eq_false hc)
  have n7 : op ≠ 7 := of_decide_eq_false hc
  clear hc
  repeat' first | refine zzs ?_ | refine zzr hnt rfl ?_ ?_ | refine zzd hnt rfl ?_ ?_ | refine zzb ?_ | refine zzk ?_
  · exact zzt
  repeat' first | refine zzs ?_ | refine zzb ?_ | refine zzk ?_
  refine tr_cond rfl (fun hc => ?_) (fun hc => ?_)
  · have ho : op = 8 := of_decide_eq_true hc
    rw [if_pos (by omega)]
    repeat' first | refine zzs ?_ | refine zzr hnt rfl ?_ ?_ | refine zzd hnt rfl ?_ ?_ | refine zzb ?_ | refine zzk ?_
    · exact zzt
    repeat' first | refine zzs ?_ | refine zzb ?_ | refine zzk ?_
    refine tr_ret ⟨.inr rfl, _, _, rfl, zzp, ?_⟩
    exact rfl
  have n8 : op ≠ 8 := of_decide_eq_false hc
  clear hc
  repeat' first | refine zzs ?_ | refine zzr hnt rfl ?_ ?_ | refine zzd hnt rfl ?_ ?_ | refine zzb ?_ | refine zzk ?_
  · exact zzt
  repeat' first | refine zzs ?_ | refine zzb ?_ | refine zzk ?_
  refine tr_cond rfl (fun hc => ?_) (fun hc => ?_)
  · have ho : op = 4 := of_decide_eq_true hc
    rw [if_neg (by omega), if_pos (by omega)]
    repeat' first | refine zzs ?_ | refine zzb ?_ | refine zzk ?_
    repeat' first | refine zzs ?_ | refine zzb ?_ | refine zzk ?_
    refine tr_cond rfl (fun hc => ?_) (fun hc => ?_)
    · repeat' first | refine zzs ?_ | refine zzr hnt rfl ?_ ?_ | refine zzd hnt rfl ?_ ?_ | refine zzb ?_ | refine zzk ?_
      · exact zzt
      repeat' first | refine zzs ?_ | refine zzb ?_ | refine zzk ?_
      refine tr_ret ⟨.inr rfl, _, _, rfl, zzp, ?_⟩
      exact rfl
    exact absurd ho (of_decide_eq_false hc)
  have n4 : op ≠ 4 := of_decide_eq_false hc
  clear hc
  repeat' first | refine zzs ?_ | refine zzr hnt rfl ?_ ?_ | refine zzd hnt rfl ?_ ?_ | refine zzb ?_ | refine zzk ?_
  · exact zzt
  repeat' first | refine zzs ?_ | refine zzb ?_ | refine zzk ?_
  refine tr_cond rfl (fun hc => ?_) (fun hc => ?_)
  · have ho : op = 15 := of_decide_eq_true hc
    rw [if_neg (by omega), if_pos (by omega)]
    repeat' first | refine zzs ?_ | refine zzb ?_ | refine zzk ?_
    repeat' first | refine zzs ?_ | refine zzb ?_ | refine zzk ?_
    refine tr_cond rfl (fun hc => ?_) (fun hc => ?_)
    · repeat' first | refine zzs ?_ | refine zzr hnt rfl ?_ ?_ | refine zzd hnt rfl ?_ ?_ | refine zzb ?_ | refine zzk ?_
      · exact zzt
      repeat' first | refine zzs ?_ | refine zzb ?_ | refine zzk ?_
      refine tr_ret ⟨.inr rfl, _, _, rfl, zzp, ?_⟩
      exact rfl
    exact absurd ho (of_decide_eq_false hc)
  have n15 : op ≠ 15 := of_decide_eq_false hc
  clear hc
  repeat' first | refine zzs ?_ | refine zzr hnt rfl ?_ ?_ | refine zzd hnt rfl ?_ ?_ | refine zzb ?_ | refine zzk ?_
  · exact zzt
  repeat' first | refine zzs ?_ | refine zzb ?_ | refine zzk ?_
  refine tr_cond rfl (fun hc => ?_) (fun hc => ?_)
  · have ho : op = 16 := of_decide_eq_true hc
    rw [if_neg (by omega), if_pos (by omega)]
    repeat' first | refine zzs ?_ | refine zzr hnt rfl ?_ ?_ | refine zzd hnt rfl ?_ ?_ | refine zzb ?_ | refine zzk ?_
    · exact zzt
    repeat' first | refine zzs ?_ | refine zzb ?_ | refine zzk ?_
    refine tr_ret ⟨.inr rfl, _, _, rfl, zzp, ?_⟩
    exact rfl
  have n16 : op ≠ 16 := of_decide_eq_false hc
  clear hc
  repeat' first | refine zzs ?_ | refine zzr hnt rfl ?_ ?_ | refine zzd hnt rfl ?_ ?_ | refine zzb ?_ | refine zzk ?_
  · exact zzt
  repeat' first | refine zzs ?_ | refine zzb ?_ | refine zzk ?_
  refine tr_cond rfl (fun hc => ?_) (fun hc => ?_)
  · have ho : op = 18 := of_decide_eq_true hc
    rw [if_neg (by omega), if_neg (by omega), if_pos ho]
    repeat' first | refine zzs ?_ | refine zzr hnt rfl ?_ ?_ | refine zzd hnt rfl ?_ ?_ | refine zzb ?_ | refine zzk ?_
    · exact zzt
    repeat' first | refine zzs ?_ | refine zzb ?_ | refine zzk ?_
    refine tr_ret ⟨.inr rfl, _, _, rfl, zzp, ?_⟩
    exact rfl
  have n18 : op ≠ 18 := of_decide_eq_false hc
  clear hc
  repeat' first | refine zzs ?_ | refine zzr hnt rfl ?_ ?_ | refine zzd hnt rfl ?_ ?_ | refine zzb ?_ | refine zzk ?_
  · exact zzt
  repeat' first | refine zzs ?_ | refine zzb ?_ | refine zzk ?_
  refine tr_cond rfl (fun hc => ?_) (fun hc => ?_)
  · have ho : op = 19 := of_decide_eq_true hc
    rw [if_neg (by omega), if_neg (by omega), if_neg (by omega), if_pos ho]
    repeat' first | refine zzs ?_ | refine zzr hnt rfl ?_ ?_ | refine zzd hnt rfl ?_ ?_ | refine zzb ?_ | refine zzk ?_
    · exact zzt
    repeat' first | refine zzs ?_ | refine zzb ?_ | refine zzk ?_
    refine tr_ret ⟨.inr rfl, _, _, rfl, zzp, ?_⟩
    exact rfl
  have n19 : op ≠ 19 := of_decide_eq_false hc
  clear hc
  repeat' first | refine zzs ?_ | refine zzr hnt rfl ?_ ?_ | refine zzd hnt rfl ?_ ?_ | refine zzb ?_ | refine zzk ?_
  · exact zzt
  repeat' first | refine zzs ?_ | refine zzb ?_ | refine zzk ?_
  refine tr_cond rfl (fun hc => ?_) (fun hc => ?_)
  · have ho : op = 20 := of_decide_eq_true hc
    rw [if_neg (by omega), if_neg (by omega), if_neg (by omega), if_neg (by omega), if_pos ho]
    repeat' first | refine zzs ?_ | refine zzr hnt rfl ?_ ?_ | refine zzd hnt rfl ?_ ?_ | refine zzb ?_ | refine zzk ?_
    · exact zzt
    repeat' first | refine zzs ?_ | refine zzb ?_ | refine zzk ?_
    refine tr_ret ⟨.inr rfl, _, _, rfl, zzp, ?_⟩
    exact rfl
  have n20 : op ≠ 20 := of_decide_eq_false hc
  clear hc
  rw [if_neg (by omega), if_neg (by omega), if_neg (by omega), if_neg (by omega), if_neg (by omega)]
  repeat' first | refine zzs ?_ | refine zzr hnt rfl ?_ ?_ | refine zzd hnt rfl ?_ ?_ | refine zzb ?_ | refine zzk ?_
  · exact zzt
  repeat' first | refine zzs ?_ | refine zzb ?_ | refine zzk ?_
  refine tr_ret ⟨.inr rfl, _, _, rfl, zzp, ?_⟩
  exact rfl
set_option maxRecDepth 10000 in
set_option maxHeartbeats 2000000 in
theorem kindOf_step (x : Ex) (l : List Colm) (hu : uniq l) (hw : nodeF x = 0) (ih : ∀ a ∈ x.ar, FnD Tryz.prog 180 [.agg (.es (eEx a)), .one (.e (eCols l))] (rK (kdF l a))) : FnD Tryz.prog 180 [.agg (.es (eEx x)), .one (.e (eCols l))] (rK (kdF l x)) := by
  refine FnD.len ⟨_, _, Tryz.func180, rfl, by kernel_rfl⟩ 1 rfl fun hl1 => ?_
  refine fn_intro (T := tab) tOk Tryz.func180 rfl (by kernel_rfl) (by simp [Tryz.ntmps180]) ?_
  intro X hX
  have hnt : X.nt = 109 := hX
  clear hX
  have hml := exsLen x.ar
  have hcl := colsLen l
  unfold maxLen at hl1
  obtain ⟨w1, w2, w3⟩ := nodeF_ops hw
  rw [kdF_eq, eEx_eq]
  repeat' first | refine zzs ?_ | refine zzr hnt rfl ?_ ?_ | refine zzd hnt rfl ?_ ?_ | refine zzb ?_ | refine zzk ?_
  · exact zzt
  · exact zzt
  repeat' first | refine zzs ?_ | refine zzb ?_ | refine zzk ?_
  refine tr_cond rfl (fun hc => ?_) (fun hc => ?_)
  · have hc : x.op = 1 := of_decide_eq_true (show decide (x.op = 1) = true from hc)
    rw [if_pos hc]
    repeat' first | refine zzs ?_ | refine zzr hnt rfl ?_ ?_ | refine zzd hnt rfl ?_ ?_ | refine zzb ?_ | refine zzk ?_
    · exact zzt
    repeat' first | refine zzs ?_ | refine zzb ?_ | refine zzk ?_
    refine tr_ret ⟨.inr rfl, _, _, rfl, zzp, ?_⟩
    exact rfl
  have n1 : ¬ x.op = 1 := of_decide_eq_false (show decide (x.op = 1) = false from hc)
  clear hc
  rw [if_neg n1]
  repeat' first | refine zzs ?_ | refine zzr hnt rfl ?_ ?_ | refine zzd hnt rfl ?_ ?_ | refine zzb ?_ | refine zzk ?_
  · exact zzt
  repeat' first | refine zzs ?_ | refine zzb ?_ | refine zzk ?_
  refine tr_cond rfl (fun hc => ?_) (fun hc => ?_)
  · have hc : x.op = 2 := of_decide_eq_true (show decide (x.op = 2) = true from hc)
    rw [if_pos hc, fndF_at l x.n hu]
    have h1 := columnAt_fn l x.n
    have hr := colAtN_rng l x.n l.length
    have hr : -1 ≤ colAt l x.n ∧ colAt l x.n < l.length := hr
    generalize colAt l x.n = p at *
    repeat' first | refine zzs ?_ | refine zzb ?_ | refine zzk ?_
    refine tr_region (zzx hnt rfl ?_ (call rfl rfl rfl rfl rfl rfl rfl hnt (h1) (zzx hnt rfl ?_ (Lex.nil _)))) ?_
    · exact zzt
    · exact zzt
    repeat' first | refine zzs ?_ | refine zzr hnt rfl ?_ ?_ | refine zzd hnt rfl ?_ ?_ | refine zzb ?_ | refine zzk ?_
    · exact zzt
    repeat' first | refine zzs ?_ | refine zzb ?_ | refine zzk ?_
    refine tr_cond rfl (fun hc => ?_) (fun hc => ?_)
    · simp only [zz1, zz2, zz3, zz4, zz5, zz6, zz7, zz8] at hc
      rw [if_pos hc]
      repeat' first | refine zzs ?_ | refine zzr hnt rfl ?_ ?_ | refine zzd hnt rfl ?_ ?_ | refine zzb ?_ | refine zzk ?_
      · exact zzt
      repeat' first | refine zzs ?_ | refine zzb ?_ | refine zzk ?_
      refine tr_ret ⟨.inr rfl, _, _, rfl, zzp, ?_⟩
      exact rfl
    simp only [zz1, zz2, zz3, zz4, zz5, zz6, zz7, zz8] at hc
    rw [if_neg hc]
    have hlt : p.toNat < l.length := by omega
    have hg := colsGet l p.toNat hlt
    repeat' first | refine zzs ?_ | refine zzb ?_ | refine zzk ?_
    first | refine zzr hnt rfl ?_ ?_ | refine zzd hnt rfl ?_ ?_
    · rw [hg, hcl]
      exact zza
    rw [hg]
    repeat' first | refine zzs ?_ | refine zzb ?_ | refine zzk ?_
    refine tr_ret ⟨.inr rfl, _, _, rfl, zzp, ?_⟩
    exact rfl
  have n2 : ¬ x.op = 2 := of_decide_eq_false (show decide (x.op = 2) = false from hc)
  clear hc
  rw [if_neg n2]
  have ha := asksFor_fn x.op
  have hra := fun ss => raEq x.op (by omega) w2 ss
  generalize afF x.op = af at *
  repeat' first | refine zzs ?_ | refine zzr hnt rfl ?_ ?_ | refine zzd hnt rfl ?_ ?_ | refine zzb ?_ | refine zzk ?_
  · exact zzt
  repeat' first | refine zzs ?_ | refine zzb ?_ | refine zzk ?_
  refine tr_region (zzx hnt rfl ?_ (call rfl rfl rfl rfl rfl rfl rfl hnt (ha) (zzx hnt rfl ?_ (Lex.nil _)))) ?_
  · exact zzt
  · exact zzt
  repeat' first | refine zzs ?_ | refine zzr hnt rfl ?_ ?_ | refine zzd hnt rfl ?_ ?_ | refine zzb ?_ | refine zzk ?_
  · exact zzt
  · exact zzt
  repeat' first | refine zzs ?_ | refine zzb ?_ | refine zzk ?_
  refine tr_loop (σ := Nat × List Srt × KS) (fun y => St.of [(1, .one (.e (eCols l))), (2, .one (.ptr 2 0 0)), (8, .v (.bool y.2.2.1)), (9, .v (.bool y.2.2.2.1)), (10, .one (.e (eI y.2.2.2.2.1))), (11, .one (.e (eI af.2))), (12, .v (.bool y.2.2.2.2.2)), (54, .one (.e (.sl (eExs x.ar)))), (55, .one (.e (eI ((eExs x.ar).length : Int)))), (56, .one (.e (eI (y.1 : Int))))] [(2, ⟨0, .box (.es [eI x.op, eI x.v.k, eI x.v.i, eQ x.v.b, eT x.v.t, eT x.n, .sl (eExs x.ar)]), 0⟩)]) (fun y => kdA l y.2.1 (x.ar.drop y.1) = kdA l [] x.ar ∧ y.2.1.length = y.1 ∧ y.1 ≤ x.ar.length ∧ y.2.1.foldl (stF x.op) (false, true, af.1, false) = y.2.2) (fun y => x.ar.length - y.1) ((0, [], (false, true, af.1, false))) (le_of (ad := []) ⟨zzl, zzl, zzl, zzl, zzl, zzl, zzl, zzl, zzl, zzl, trivial⟩ (memOk_box rfl rfl rfl trivial)) ⟨rfl, rfl, Nat.zero_le _, rfl⟩ ?_
  rintro ⟨i, ss, z1, z2, z3, z4⟩ ⟨hi, hs, il, hz⟩
  dsimp only at hi hs il hz ⊢
  have hL : x.ar.length ≤ 2 := by unfold wantF at w3; split at w3; omega; split at w3 <;> omega
  repeat' first | refine zzs ?_ | refine zzr hnt rfl ?_ ?_ | refine zzd hnt rfl ?_ ?_ | refine zzb ?_ | refine zzk ?_
  · exact zzt
  repeat' first | refine zzs ?_ | refine zzb ?_ | refine zzk ?_
  refine tr_cond rfl (fun hc => ?_) (fun hc => ?_)
  · simp only [zz1, zz2, zz3, zz4, zz5, zz6, zz7, zz8] at hc
    (try simp only [hml] at hc)
    (try simp only [zz1, zz2, zz3, zz4, zz5, zz6, zz7, zz8] at hc)
    have hlt : i < x.ar.length := by omega
    rw [drop_getD (d := ex0) hlt, kdA] at hi
    have hg := exsGet x.ar i hlt
    have ham : x.ar.getD i ex0 ∈ x.ar := getD_mem hlt
    have h1 := ih _ ham
    repeat' first | refine zzs ?_ | refine zzb ?_ | refine zzk ?_
    first | refine zzr hnt rfl ?_ ?_ | refine zzd hnt rfl ?_ ?_
    · rw [Int.toNat_natCast, hg, eEx_eq, hml]
      exact zza
    rw [Int.toNat_natCast, hg, eEx_eq (x.ar.getD i ex0)]
    rw [eEx_eq] at h1
    generalize x.ar.getD i ex0 = a at *
    generalize kdF l a = r at *
    clear ham hg
    repeat' first | refine zzs ?_ | refine zzb ?_ | refine zzk ?_
    refine tr_region (zzx hnt rfl ?_ (call rfl rfl rfl rfl rfl rfl rfl hnt (h1) (zzx hnt rfl ?_ (Lex.nil _)))) ?_
    · exact zzt
    · exact zzt
    repeat' first | refine zzs ?_ | refine zzr hnt rfl ?_ ?_ | refine zzd hnt rfl ?_ ?_ | refine zzb ?_ | refine zzk ?_
    · exact zzt
    repeat' first | refine zzs ?_ | refine zzb ?_ | refine zzk ?_
    refine tr_cond rfl (fun hc => ?_) (fun hc => ?_)
    · simp only [zz1, zz2, zz3, zz4, zz5, zz6, zz7, zz8] at hc
      have hc : r.2.2 ≠ 0 := hc
      rw [if_pos hc] at hi
      rw [← hi, if_pos hc]
      repeat' first | refine zzs ?_ | refine zzr hnt rfl ?_ ?_ | refine zzd hnt rfl ?_ ?_ | refine zzb ?_ | refine zzk ?_
      · exact zzt
      repeat' first | refine zzs ?_ | refine zzb ?_ | refine zzk ?_
      refine tr_ret ⟨.inr rfl, _, _, rfl, zzp, ?_⟩
      exact rfl
    simp only [zz1, zz2, zz3, zz4, zz5, zz6, zz7, zz8] at hc
    have hc : r.2.2 = 0 := hc
    rw [if_neg (not_not_intro hc)] at hi
    obtain ⟨rk, ru, rf⟩ := r
    dsimp only at hi hc
    repeat' first | refine zzs ?_ | refine zzb ?_ | refine zzk ?_
    first | refine zzr hnt rfl ?_ ?_ | refine zzd hnt rfl ?_ ?_
    · exact zza
    repeat' first | refine zzs ?_ | refine zzb ?_ | refine zzk ?_
    first | refine zzr hnt rfl ?_ ?_ | refine zzd hnt rfl ?_ ?_
    · exact zza
    repeat' first | refine zzs ?_ | refine zzb ?_ | refine zzk ?_
    refine tr_cond rfl (fun hc => ?_) (fun hc => ?_)
    · have hc : (bif decide (x.op = 17) then true else decide (rk = 0)) = true := hc
      simp only [zz1, zz2, zz3, zz4, zz5, zz6, zz7, zz8] at hc
      refine tr_exit ?_
      have hst : stF x.op (z1, z2, z3, z4) (rk, ru) = ((bif z1 then true else ru), (bif z2 then ru else false), z3, z4) := by unfold stF; rw [if_pos hc]
      repeat' first | refine zzs ?_ | refine zzr hnt rfl ?_ ?_ | refine zzd hnt rfl ?_ ?_ | refine zzb ?_ | refine zzk ?_
      · exact zzt
      refine ⟨(i + 1, ss ++ [(rk, ru)], ((bif z1 then true else ru), (bif z2 then ru else false), z3, z4)), ⟨hi, by dsimp only; rw [List.length_append, hs]; rfl, by dsimp only; omega, by dsimp only; rw [List.foldl_append, hz]; exact hst⟩, by dsimp only; omega, le_of (ad := []) ⟨zzl, zzl, zzl, zzl, zzl, zzl, zzl, zzl, zzl, zzl, trivial⟩ (memOk_box rfl rfl rfl trivial)⟩
    have hc : (bif decide (x.op = 17) then true else decide (rk = 0)) = false := hc
    simp only [zz1, zz2, zz3, zz4, zz5, zz6, zz7, zz8] at hc
    have hc1 : ¬ (x.op = 17 ∨ rk = 0) := by omega
    have hst : stF x.op (z1, z2, z3, z4) (rk, ru) = ((bif z1 then true else ru), (bif z2 then ru else false), asK z3 rk, (bif z4 then true else !decide (rk = asK z3 rk))) := by unfold stF; rw [if_neg hc1]
    repeat' first | refine zzs ?_ | refine zzr hnt rfl ?_ ?_ | refine zzd hnt rfl ?_ ?_ | refine zzb ?_ | refine zzk ?_
    · exact zzt
    repeat' first | refine zzs ?_ | refine zzb ?_ | refine zzk ?_
    refine tr_cond rfl (fun hc => ?_) (fun hc => ?_)
    · simp only [zz1, zz2, zz3, zz4, zz5, zz6, zz7, zz8] at hc
      have hc : z3 = 0 := hc
      have hk : asK z3 rk = rk := by unfold asK; rw [if_pos hc]
      rw [hk] at hst
      repeat' first | refine zzs ?_ | refine zzb ?_ | refine zzk ?_
      first | refine zzr hnt rfl ?_ ?_ | refine zzd hnt rfl ?_ ?_
      · exact zza
      repeat' first | refine zzs ?_ | refine zzb ?_ | refine zzk ?_
      first | refine zzr hnt rfl ?_ ?_ | refine zzd hnt rfl ?_ ?_
      · exact zza
      repeat' first | refine zzs ?_ | refine zzr hnt rfl ?_ ?_ | refine zzd hnt rfl ?_ ?_ | refine zzb ?_ | refine zzk ?_
      · exact zzt
      refine ⟨(i + 1, ss ++ [(rk, ru)], ((bif z1 then true else ru), (bif z2 then ru else false), rk, (bif z4 then true else !decide (rk = rk)))), ⟨hi, by dsimp only; rw [List.length_append, hs]; rfl, by dsimp only; omega, by dsimp only; rw [List.foldl_append, hz]; exact hst⟩, by dsimp only; omega, le_of (ad := []) ⟨zzl, zzl, zzl, zzl, zzl, zzl, zzl, zzl, zzl, zzl, trivial⟩ (memOk_box rfl rfl rfl trivial)⟩
    simp only [zz1, zz2, zz3, zz4, zz5, zz6, zz7, zz8] at hc
    have hc : ¬ z3 = 0 := hc
    have hk : asK z3 rk = z3 := by unfold asK; rw [if_neg hc]
    rw [hk] at hst
    repeat' first | refine zzs ?_ | refine zzb ?_ | refine zzk ?_
    first | refine zzr hnt rfl ?_ ?_ | refine zzd hnt rfl ?_ ?_
    · exact zza
    repeat' first | refine zzs ?_ | refine zzr hnt rfl ?_ ?_ | refine zzd hnt rfl ?_ ?_ | refine zzb ?_ | refine zzk ?_
    · exact zzt
    refine ⟨(i + 1, ss ++ [(rk, ru)], ((bif z1 then true else ru), (bif z2 then ru else false), z3, (bif z4 then true else !decide (rk = z3)))), ⟨hi, by dsimp only; rw [List.length_append, hs]; rfl, by dsimp only; omega, by dsimp only; rw [List.foldl_append, hz]; exact hst⟩, by dsimp only; omega, le_of (ad := []) ⟨zzl, zzl, zzl, zzl, zzl, zzl, zzl, zzl, zzl, zzl, trivial⟩ (memOk_box rfl rfl rfl trivial)⟩
  simp only [zz1, zz2, zz3, zz4, zz5, zz6, zz7, zz8] at hc
  (try simp only [hml] at hc)
  (try simp only [zz1, zz2, zz3, zz4, zz5, zz6, zz7, zz8] at hc)
  refine tr_exit ?_
  rw [List.drop_eq_nil_of_le (by omega), kdA] at hi
  have hr := hra ss (by rw [hs]; omega)
  rw [hz] at hr
  rw [← hi, if_neg (fun h => h rfl), ← hr]
  unfold raF
  repeat' first | refine zzs ?_ | refine zzr hnt rfl ?_ ?_ | refine zzd hnt rfl ?_ ?_ | refine zzb ?_ | refine zzk ?_
  · exact zzt
  repeat' first | refine zzs ?_ | refine zzb ?_ | refine zzk ?_
  refine tr_cond rfl (fun hc => ?_) (fun hc => ?_)
  · have hc : z4 = true := hc
    rw [if_pos hc]
    repeat' first | refine zzs ?_ | refine zzr hnt rfl ?_ ?_ | refine zzd hnt rfl ?_ ?_ | refine zzb ?_ | refine zzk ?_
    · exact zzt
    repeat' first | refine zzs ?_ | refine zzb ?_ | refine zzk ?_
    refine tr_ret ⟨.inr rfl, _, _, rfl, zzp, ?_⟩
    exact rfl
  have hc : z4 = false := hc
  rw [if_neg (by rw [hc]; exact Bool.noConfusion)]
  repeat' first | refine zzs ?_ | refine zzr hnt rfl ?_ ?_ | refine zzd hnt rfl ?_ ?_ | refine zzb ?_ | refine zzk ?_
  · exact zzt
  repeat' first | refine zzs ?_ | refine zzb ?_ | refine zzk ?_
  refine tr_cond rfl (fun hc => ?_) (fun hc => ?_)
  · have hc : x.op = 17 := of_decide_eq_true (show decide (x.op = 17) = true from hc)
    rw [if_pos hc]
    repeat' first | refine zzs ?_ | refine zzr hnt rfl ?_ ?_ | refine zzd hnt rfl ?_ ?_ | refine zzb ?_ | refine zzk ?_
    · exact zzt
    repeat' first | refine zzs ?_ | refine zzb ?_ | refine zzk ?_
    refine tr_ret ⟨.inr rfl, _, _, rfl, zzp, ?_⟩
    exact rfl
  have hc : ¬ x.op = 17 := of_decide_eq_false (show decide (x.op = 17) = false from hc)
  rw [if_neg hc]
  repeat' first | refine zzs ?_ | refine zzr hnt rfl ?_ ?_ | refine zzd hnt rfl ?_ ?_ | refine zzb ?_ | refine zzk ?_
  · exact zzt
  repeat' first | refine zzs ?_ | refine zzb ?_ | refine zzk ?_
  refine tr_cond rfl (fun hc => ?_) (fun hc => ?_)
  · have hc : x.op = 20 := of_decide_eq_true (show decide (x.op = 20) = true from hc)
    rw [if_pos hc]
    repeat' first | refine zzs ?_ | refine zzr hnt rfl ?_ ?_ | refine zzd hnt rfl ?_ ?_ | refine zzb ?_ | refine zzk ?_
    · exact zzt
    repeat' first | refine zzs ?_ | refine zzb ?_ | refine zzk ?_
    refine tr_ret ⟨.inr rfl, _, _, rfl, zzp, ?_⟩
    exact rfl
  have hc : ¬ x.op = 20 := of_decide_eq_false (show decide (x.op = 20) = false from hc)
  rw [if_neg hc]
  repeat' first | refine zzs ?_ | refine zzr hnt rfl ?_ ?_ | refine zzd hnt rfl ?_ ?_ | refine zzb ?_ | refine zzk ?_
  · exact zzt
  repeat' first | refine zzs ?_ | refine zzb ?_ | refine zzk ?_
  refine tr_ret ⟨.inr rfl, _, _, rfl, zzp, ?_⟩
  exact rfl
theorem kindOf_all (l : List Colm) (hu : uniq l) : ∀ (m : Nat) (x : Ex), nodes x ≤ m → exOk x → ndF x = 0 → FnD Tryz.prog 180 [.agg (.es (eEx x)), .one (.e (eCols l))] (rK (kdF l x))
  | 0, x, h, _, _ => absurd h (by have := nodes_pos x; omega)
  | m + 1, x, h, ho, hn => kindOf_step x l hu (ndF_zero hn).1 fun a ha => kindOf_all l hu m a (kid_nodes h ha) ((exOk_kids ho).2 a ha) (ndF_kid hn a ha)
set_option maxRecDepth 10000 in
set_option maxHeartbeats 2000000 in
theorem KindOf_fn (x : Ex) (l : List Colm) (h : exOk x) (hn : ∀ c ∈ l, c.n.length ≤ maxLen) : FnG Tryz.prog 107 gK [.agg (.es (eEx x)), .one (.e (eCols l))] (rK (koF x l)) := by
  refine fn_introG (T := tab) tOk Tryz.func107 rfl (by kernel_rfl) (by simp [Tryz.ntmps107]) ?_
  intro X hX
  have hnt : X.nt = 25 := hX
  clear hX
  have h1 := exprFault_fn x h
  have h2 := columnsFault_fn l hn
  have hx7 := ex7 x
  have f2 : 0 + 7 ≤ (Cs.es (eEx x)).len := by show 0 + 7 ≤ (eEx x).length; rw [hx7]; exact Nat.le_refl _
  unfold koF
  rw [← exAll x] at h1
  have hz : exF x = 0 → ndF x = 0 := exF_nd
  have hq : colsF l = 0 → uniq l := colsF_uniq
  generalize exF x = e at *
  generalize colsF l = f at *
  repeat' first | refine zzs ?_ | refine zzr hnt rfl ?_ ?_ | refine zzd hnt rfl ?_ ?_ | refine zzb ?_ | refine zzk ?_
  · exact zzt
  repeat' first | refine zzs ?_ | refine zzb ?_ | refine zzk ?_
  refine tr_region (zzx hnt rfl ?_ (callV rfl rfl rfl rfl rfl rfl rfl hnt rfl (h1) (zzx hnt rfl ?_ (Lex.nil _)))) ?_
  · exact zza
  · exact zzt
  repeat' first | refine zzs ?_ | refine zzr hnt rfl ?_ ?_ | refine zzd hnt rfl ?_ ?_ | refine zzb ?_ | refine zzk ?_
  · exact zzt
  repeat' first | refine zzs ?_ | refine zzb ?_ | refine zzk ?_
  refine tr_cond rfl (fun hc => ?_) (fun hc => ?_)
  · simp only [zz1, zz2, zz3, zz4, zz5, zz6, zz7, zz8] at hc
    rw [if_pos hc]
    repeat' first | refine zzs ?_ | refine zzr hnt rfl ?_ ?_ | refine zzd hnt rfl ?_ ?_ | refine zzb ?_ | refine zzk ?_
    · exact zzt
    exact tr_ret ⟨.inr rfl, _, _, rfl, trivial, rfl⟩
  simp only [zz1, zz2, zz3, zz4, zz5, zz6, zz7, zz8] at hc
  rw [if_neg (not_not_intro hc)]
  have h3 := fun hq => kindOf_all l hq (nodes x) x (Nat.le_refl _) h (hz hc)
  rw [← exAll x] at h3
  clear h1 hz
  repeat' first | refine zzs ?_ | refine zzb ?_ | refine zzk ?_
  refine tr_region (zzx hnt rfl ?_ (call rfl rfl rfl rfl rfl rfl rfl hnt (h2) (zzx hnt rfl ?_ (Lex.nil _)))) ?_
  · exact zzt
  · exact zzt
  repeat' first | refine zzs ?_ | refine zzr hnt rfl ?_ ?_ | refine zzd hnt rfl ?_ ?_ | refine zzb ?_ | refine zzk ?_
  · exact zzt
  repeat' first | refine zzs ?_ | refine zzb ?_ | refine zzk ?_
  refine tr_cond rfl (fun hc => ?_) (fun hc => ?_)
  · simp only [zz1, zz2, zz3, zz4, zz5, zz6, zz7, zz8] at hc
    rw [if_pos hc]
    repeat' first | refine zzs ?_ | refine zzr hnt rfl ?_ ?_ | refine zzd hnt rfl ?_ ?_ | refine zzb ?_ | refine zzk ?_
    · exact zzt
    exact tr_ret ⟨.inr rfl, _, _, rfl, trivial, rfl⟩
  simp only [zz1, zz2, zz3, zz4, zz5, zz6, zz7, zz8] at hc
  rw [if_neg (not_not_intro hc)]
  have h3 := h3 (hq hc)
  generalize kdF l x = r at *
  repeat' first | refine zzs ?_ | refine zzb ?_ | refine zzk ?_
  refine tr_region (zzx hnt rfl ?_ (call rfl rfl rfl rfl rfl rfl rfl hnt (h3) (zzx hnt rfl ?_ (Lex.nil _)))) ?_
  · exact zza
  · exact zzt
  repeat' first | refine zzs ?_ | refine zzb ?_ | refine zzk ?_
  refine tr_ret ⟨.inr rfl, _, _, rfl, zzp, ?_⟩
  exact rfl
end Go.Proofs.YthnadkafegmacaaGreatDoor
