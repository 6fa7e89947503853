/- What an expression says of a row: parts. No condition. -/
import Derived.Test.YthnadkafegmacaaGreatDoorTKCd
import Derived.Test.YthnadkafegmacaaGreatDoorTCm3
import Derived.Test.YthnadkafegmacaaGreatDoorAbL
namespace Go.Proofs.YthnadkafegmacaaGreatDoor
open Go Go.RowKit Go.Proofs.YthnadkafegmacaaGreatDoor.Ab
set_option linter.unusedSimpArgs false
set_option linter.unusedVariables false

def bV (b : Bool) : Val := ⟨1, if b then 1 else 0, 0, []⟩
def nV (n : Int) : Val := ⟨2, n, 0, []⟩
def tV (t : Byt) : Val := ⟨4, 0, 0, t⟩
def trV (t : Int) : Val := if t = 1 then val0 else ⟨1, IntKind.i64.wrap (t.tdiv 2), 0, []⟩
def rVE (x : Val × Int) : D := .tup [(true, .es (eVal x.1)), (false, .es [eI x.2])]
set_option maxRecDepth 10000 in
set_option maxHeartbeats 2000000 in
theorem truth_fn (t : Int) : FnD Tryz.prog 322 [.one (.e (eI t))] (.agg (.es (eVal (trV t)))) := by
  refine fn_intro (T := tab) tOk Tryz.func322 rfl (by kernel_rfl) (by simp [Tryz.ntmps322]) ?_
  intro X hX
  have hnt : X.nt = 9 := hX
  clear hX
  unfold trV
  repeat' first | refine zzs ?_ | refine zzr hnt rfl ?_ ?_ | refine zzd hnt rfl ?_ ?_ | refine zzb ?_ | refine zzk ?_
  · exact zzt
  · exact zzt
  repeat' first | refine zzs ?_ | refine zzb ?_ | refine zzk ?_
  refine tr_cond rfl (fun hc => ?_) (fun hc => ?_)
  · simp only [zz1, zz2, zz3, zz4, zz5, zz6, zz7, zz8] at hc
    rw [if_pos hc]
    repeat' first | refine zzs ?_ | refine zzr hnt rfl ?_ ?_ | refine zzd hnt rfl ?_ ?_ | refine zzb ?_ | refine zzk ?_
    · exact zzt
    exact tr_ret ⟨.inr rfl, _, _, rfl, zzp, rfl⟩
  simp only [zz1, zz2, zz3, zz4, zz5, zz6, zz7, zz8] at hc
  rw [if_neg hc]
  repeat' first | refine zzs ?_ | refine zzr hnt rfl ?_ ?_ | refine zzd hnt rfl ?_ ?_ | refine zzb ?_ | refine zzk ?_
  · exact zzt
  exact tr_ret ⟨.inr rfl, _, _, rfl, zzp, rfl⟩
set_option maxRecDepth 10000 in
set_option maxHeartbeats 2000000 in
theorem number_fn (n : Int) : FnD Tryz.prog 323 [.one (.e (eI n))] (.agg (.es (eVal (nV n)))) := by
  refine fn_intro (T := tab) tOk Tryz.func323 rfl (by kernel_rfl) (by simp [Tryz.ntmps323]) ?_
  intro X hX
  have hnt : X.nt = 5 := hX
  clear hX
  repeat' first | refine zzs ?_ | refine zzr hnt rfl ?_ ?_ | refine zzd hnt rfl ?_ ?_ | refine zzb ?_ | refine zzk ?_
  · exact zzt
  · exact zzt
  exact tr_ret ⟨.inr rfl, _, _, rfl, zzp, rfl⟩
def ptF (v : Val) : Int × Bool := if v.k = 0 then (1, true) else if v.k = 1 then (IntKind.i64.wrap (2 * v.i), true) else (0, false)
def rIB (x : Int × Bool) : D := .tup [(false, .es [eI x.1]), (false, .es [.v (.bool x.2)])]
set_option maxRecDepth 10000 in
set_option maxHeartbeats 2000000 in
theorem part_fn (v : Val) : FnD Tryz.prog 330 [.agg (.es (eVal v))] (rIB (ptF v)) := by
  refine fn_intro (T := tab) tOk Tryz.func330 rfl (by kernel_rfl) (by simp [Tryz.ntmps330]) ?_
  intro X hX
  have hnt : X.nt = 13 := hX
  clear hX
  unfold ptF
  repeat' first | refine zzs ?_ | refine zzr hnt rfl ?_ ?_ | refine zzd hnt rfl ?_ ?_ | refine zzb ?_ | refine zzk ?_
  · exact zzt
  · exact zzt
  · exact zzt
  repeat' first | refine zzs ?_ | refine zzb ?_ | refine zzk ?_
  refine tr_cond rfl (fun hc => ?_) (fun hc => ?_)
  · simp only [zz1, zz2, zz3, zz4, zz5, zz6, zz7, zz8] at hc
    (try simp only [eVal0] at hc)
    (try simp only [zz1, zz2, zz3, zz4, zz5, zz6, zz7, zz8] at hc)
    rw [if_pos hc]
    repeat' first | refine zzs ?_ | refine zzr hnt rfl ?_ ?_ | refine zzd hnt rfl ?_ ?_ | refine zzb ?_ | refine zzk ?_
    · exact zzt
    exact tr_ret ⟨.inr rfl, _, _, rfl, trivial, rfl⟩
  simp only [zz1, zz2, zz3, zz4, zz5, zz6, zz7, zz8] at hc
  (try simp only [eVal0] at hc)
  (try simp only [zz1, zz2, zz3, zz4, zz5, zz6, zz7, zz8] at hc)
  rw [if_neg hc]
  repeat' first | refine zzs ?_ | refine zzr hnt rfl ?_ ?_ | refine zzd hnt rfl ?_ ?_ | refine zzb ?_ | refine zzk ?_
  · exact zzt
  repeat' first | refine zzs ?_ | refine zzb ?_ | refine zzk ?_
  refine tr_cond rfl (fun hc => ?_) (fun hc => ?_)
  · simp only [zz1, zz2, zz3, zz4, zz5, zz6, zz7, zz8] at hc
    (try simp only [eVal0] at hc)
    (try simp only [zz1, zz2, zz3, zz4, zz5, zz6, zz7, zz8] at hc)
    rw [if_pos hc]
    repeat' first | refine zzs ?_ | refine zzr hnt rfl ?_ ?_ | refine zzd hnt rfl ?_ ?_ | refine zzb ?_ | refine zzk ?_
    · exact zzt
    exact tr_ret ⟨.inr rfl, _, _, rfl, trivial, rfl⟩
  simp only [zz1, zz2, zz3, zz4, zz5, zz6, zz7, zz8] at hc
  (try simp only [eVal0] at hc)
  (try simp only [zz1, zz2, zz3, zz4, zz5, zz6, zz7, zz8] at hc)
  rw [if_neg hc]
  repeat' first | refine zzs ?_ | refine zzr hnt rfl ?_ ?_ | refine zzd hnt rfl ?_ ?_ | refine zzb ?_ | refine zzk ?_
  · exact zzt
  exact tr_ret ⟨.inr rfl, _, _, rfl, trivial, rfl⟩
/-! ### what a right value is -/
theorem chk_cases {v : Val} (h : chk v = 0) : 0 ≤ v.k ∧ v.k ≤ 4 ∧ v.t.length ≤ 40 ∧ (v.k ≠ 4 → v.t = []) ∧ (v.k ≠ 3 → v.b = 0) ∧ (v.k ≠ 2 → v.k ≠ 1 → v.i = 0) ∧ (v.k = 1 → v.i = 0 ∨ v.i = 1) := by
  unfold chk at h
  split at h
  · cases h
  · rename_i h1
    split at h
    · cases h
    · rename_i h2
      split at h
      · cases h
      · rename_i h3
        split at h
        · cases h
        · rename_i h4
          refine ⟨by omega, by omega, by omega, fun k => ?_, fun k => ?_, fun k k' => by omega, fun k => by omega⟩
          · exact List.eq_nil_of_length_eq_zero (by omega)
          · exact BitVec.eq_of_toNat_eq (by show v.b.toNat = 0; omega)
theorem Val.ext' {v w : Val} (h1 : v.k = w.k) (h2 : v.i = w.i) (h3 : v.b = w.b) (h4 : v.t = w.t) : v = w := by
  obtain ⟨a, b, c, d⟩ := v
  obtain ⟨e, f, g, i⟩ := w
  dsimp only at *
  subst h1
  subst h2
  subst h3
  subst h4
  rfl
theorem chk_null {v : Val} (h : chk v = 0) (k : v.k = 0) : v = val0 := by
  obtain ⟨_, _, _, h1, h2, h3, _⟩ := chk_cases h
  exact Val.ext' k (h3 (by omega) (by omega)) (h2 (by omega)) (h1 (by omega))
theorem chk_bool {v : Val} (h : chk v = 0) (k : v.k = 1) : v = bV false ∨ v = bV true := by
  obtain ⟨_, _, _, h1, h2, h3, h4⟩ := chk_cases h
  rcases h4 k with h4 | h4
  · exact .inl (Val.ext' k h4 (h2 (by omega)) (h1 (by omega)))
  · exact .inr (Val.ext' k h4 (h2 (by omega)) (h1 (by omega)))
theorem chk_text {v : Val} (h : chk v = 0) (k : v.k = 4) : v = tV v.t ∧ v.t.length ≤ 40 ∧ vld v.t = true := by
  obtain ⟨_, _, h0, h1, h2, h3, h4⟩ := chk_cases h
  refine ⟨Val.ext' k (h3 (by omega) (by omega)) (h2 (by omega)) rfl, h0, ?_⟩
  unfold chk at h
  repeat' split at h
  all_goals first | (cases h; done) | skip
  rename_i h5
  cases hv : vld v.t with
  | true => rfl
  | false => exact absurd ⟨k, hv⟩ h5
theorem chk_bV (b : Bool) : chk (bV b) = 0 := by cases b <;> rfl
theorem chk_nV (n : Int) : chk (nV n) = 0 := by
  unfold chk nV
  simp
theorem chk_tV {t : Byt} (h : t.length ≤ 40) (hv : vld t = true) : chk (tV t) = 0 := by
  unfold chk tV
  simp [hv]
  omega
def adF (k : Int) (v w : Val) : Bool := decide ((v.k = 0 ∨ v.k = k) ∧ (w.k = 0 ∨ w.k = k))
set_option maxRecDepth 10000 in
set_option maxHeartbeats 2000000 in
theorem askedK_fn (k : Int) (v w : Val) : FnD Tryz.prog 333 [.one (.e (eI k)), .agg (.es (eVal v)), .agg (.es (eVal w))] (.v (.bool (adF k v w))) := by
  refine fn_intro (T := tab) tOk Tryz.func333 rfl (by kernel_rfl) (by simp [Tryz.ntmps333]) ?_
  intro X hX
  have hnt : X.nt = 27 := hX
  clear hX
  repeat' first | refine zzs ?_ | refine zzr hnt rfl ?_ ?_ | refine zzd hnt rfl ?_ ?_ | refine zzb ?_ | refine zzk ?_
  · exact zzt
  · exact zzt
  refine tr_ret ⟨.inr rfl, _, _, rfl, by trivial, ?_⟩
  refine congrArg (fun z : Bool => D.v (.bool z)) ?_
  unfold adF
  rw [eVal0, eVal0]
  by_cases h1 : v.k = 0 <;> by_cases h2 : v.k = k <;> by_cases h3 : w.k = 0 <;> by_cases h4 : w.k = k <;> simp [h1, h2, h3, h4]
def vtF : List Int → Int
  | [] => 0
  | a :: r => if a < 0 ∨ 2 < a then 2 else vtF r
def eIs (l : List Int) : E := .sl (l.map fun n => [eI n])
set_option maxRecDepth 10000 in
set_option maxHeartbeats 2000000 in
theorem vtruth_fn (l : List Int) (hl : l.length ≤ 10) : FnD Tryz.prog 337 [.one (.e (eIs l))] (.one (.e (eI (vtF l)))) := by
  refine fn_intro (T := tab) tOk Tryz.func337 rfl (by kernel_rfl) (by simp [Tryz.ntmps337]) ?_
  intro X hX
  have hnt : X.nt = 18 := hX
  clear hX
  have hml : (l.map fun n => [eI n]).length = l.length := List.length_map ..
  repeat' first | refine zzs ?_ | refine zzr hnt rfl ?_ ?_ | refine zzd hnt rfl ?_ ?_ | refine zzb ?_ | refine zzk ?_
  · exact zzt
  · exact zzt
  repeat' first | refine zzs ?_ | refine zzb ?_ | refine zzk ?_
  refine tr_loop (σ := Nat) (fun i => St.of [(5, .one (.e (eIs l))), (6, .one (.e (eI ((l.map fun n => [eI n]).length : Int)))), (7, .one (.e (eI (i : Int))))] []) (fun i => i ≤ l.length ∧ vtF (l.drop i) = vtF l) (fun i => l.length - i) (0) (le_of (ad := []) ⟨zzl, zzl, zzl, trivial⟩ trivial) ⟨Nat.zero_le _, rfl⟩ ?_
  rintro i ⟨il, hJ⟩
  repeat' first | refine zzs ?_ | refine zzr hnt rfl ?_ ?_ | refine zzd hnt rfl ?_ ?_ | refine zzb ?_ | refine zzk ?_
  · exact zzt
  repeat' first | refine zzs ?_ | refine zzb ?_ | refine zzk ?_
  refine tr_cond rfl (fun hc => ?_) (fun hc => ?_)
  · simp only [zz1, zz2, zz3, zz4, zz5, zz6, zz7, zz8] at hc
    (try simp only [hml] at hc)
    (try simp only [zz1, zz2, zz3, zz4, zz5, zz6, zz7, zz8] at hc)
    have hlt : i < l.length := by omega
    have hg : (l.map fun n => [eI n]).getD i [] = [eI (l.getD i 0)] := by
      rw [List.getD_eq_getElem?_getD, List.getElem?_map, List.getElem?_eq_getElem hlt, List.getD_eq_getElem?_getD, List.getElem?_eq_getElem hlt]
      rfl
    rw [drop_getD (d := 0) hlt, vtF] at hJ
    repeat' first | refine zzs ?_ | refine zzb ?_ | refine zzk ?_
    first | refine zzr hnt rfl ?_ ?_ | refine zzd hnt rfl ?_ ?_
    · rw [Int.toNat_natCast, hg, hml]
      exact zza
    rw [Int.toNat_natCast, hg]
    generalize l.getD i 0 = a at *
    rw [show ([eI a].getD 0 E.dflt).int = a from rfl]
    repeat' first | refine zzs ?_ | refine zzr hnt rfl ?_ ?_ | refine zzd hnt rfl ?_ ?_ | refine zzb ?_ | refine zzk ?_
    · exact zzt
    repeat' first | refine zzs ?_ | refine zzb ?_ | refine zzk ?_
    refine tr_cond rfl (fun hc => ?_) (fun hc => ?_)
    · simp only [zz1, zz2, zz3, zz4, zz5, zz6, zz7, zz8] at hc
      rw [if_pos hc] at hJ
      rw [← hJ]
      repeat' first | refine zzs ?_ | refine zzr hnt rfl ?_ ?_ | refine zzd hnt rfl ?_ ?_ | refine zzb ?_ | refine zzk ?_
      · exact zzt
      exact tr_ret ⟨.inr rfl, _, _, rfl, trivial, rfl⟩
    simp only [zz1, zz2, zz3, zz4, zz5, zz6, zz7, zz8] at hc
    rw [if_neg (by omega)] at hJ
    repeat' first | refine zzs ?_ | refine zzr hnt rfl ?_ ?_ | refine zzd hnt rfl ?_ ?_ | refine zzb ?_ | refine zzk ?_
    · exact zzt
    refine ⟨i + 1, ⟨hlt, hJ⟩, by omega, le_of (ad := []) ⟨zzl, zzl, zzl, trivial⟩ trivial⟩
  simp only [zz1, zz2, zz3, zz4, zz5, zz6, zz7, zz8] at hc
  (try simp only [hml] at hc)
  (try simp only [zz1, zz2, zz3, zz4, zz5, zz6, zz7, zz8] at hc)
  refine tr_exit ?_
  rw [List.drop_eq_nil_of_le (by omega), vtF] at hJ
  rw [← hJ]
  repeat' first | refine zzs ?_ | refine zzr hnt rfl ?_ ?_ | refine zzd hnt rfl ?_ ?_ | refine zzb ?_ | refine zzk ?_
  · exact zzt
  exact tr_ret ⟨.inr rfl, _, _, rfl, trivial, rfl⟩
theorem vt2 (a b : Int) : vtF [a, b] = if a < 0 ∨ 2 < a then 2 else if b < 0 ∨ 2 < b then 2 else 0 := rfl
set_option maxRecDepth 10000 in
set_option maxHeartbeats 2000000 in
theorem vAnd_fn (a b : Int) (ha : 0 ≤ a ∧ a ≤ 2) (hb : 0 ≤ b ∧ b ≤ 2) : FnD Tryz.prog 331 [.one (.e (eI a)), .one (.e (eI b))] (rII (min a b, 0)) := by
  refine fn_intro (T := tab) tOk Tryz.func331 rfl (by kernel_rfl) (by simp [Tryz.ntmps331]) ?_
  intro X hX
  have hnt : X.nt = 17 := hX
  clear hX
  have h1 := vtruth_fn [a, b] (by simp)
  rw [vt2, if_neg (by omega), if_neg (by omega)] at h1
  repeat' first | refine zzs ?_ | refine zzr hnt rfl ?_ ?_ | refine zzd hnt rfl ?_ ?_ | refine zzb ?_ | refine zzk ?_
  · exact zzt
  repeat' first | refine zzs ?_ | refine zzb ?_ | refine zzk ?_
  refine tr_region (zzx hnt rfl ?_ (callU rfl rfl rfl rfl rfl rfl rfl hnt (h1) (zzx hnt rfl ?_ (Lex.nil _)))) ?_
  · exact zzt
  · exact zzt
  repeat' first | refine zzs ?_ | refine zzr hnt rfl ?_ ?_ | refine zzd hnt rfl ?_ ?_ | refine zzb ?_ | refine zzk ?_
  · exact zzt
  repeat' first | refine zzs ?_ | refine zzb ?_ | refine zzk ?_
  refine tr_cond rfl (fun hc => ?_) (fun hc => ?_)
  · simp only [zz1, zz2, zz3, zz4, zz5, zz6, zz7, zz8] at hc
    exact absurd trivial hc
  simp only [zz1, zz2, zz3, zz4, zz5, zz6, zz7, zz8] at hc
  repeat' first | refine zzs ?_ | refine zzr hnt rfl ?_ ?_ | refine zzd hnt rfl ?_ ?_ | refine zzb ?_ | refine zzk ?_
  · exact zzt
  refine tr_ret ⟨.inr rfl, _, _, rfl, trivial, ?_⟩
  exact congrArg (fun z : Int => rII (z, 0)) (show (if b < a then b else a) = min a b by rw [Int.min_def]; split <;> split <;> omega)
set_option maxRecDepth 10000 in
set_option maxHeartbeats 2000000 in
theorem vOr_fn (a b : Int) (ha : 0 ≤ a ∧ a ≤ 2) (hb : 0 ≤ b ∧ b ≤ 2) : FnD Tryz.prog 332 [.one (.e (eI a)), .one (.e (eI b))] (rII (max a b, 0)) := by
  refine fn_intro (T := tab) tOk Tryz.func332 rfl (by kernel_rfl) (by simp [Tryz.ntmps332]) ?_
  intro X hX
  have hnt : X.nt = 17 := hX
  clear hX
  have h1 := vtruth_fn [a, b] (by simp)
  rw [vt2, if_neg (by omega), if_neg (by omega)] at h1
  repeat' first | refine zzs ?_ | refine zzr hnt rfl ?_ ?_ | refine zzd hnt rfl ?_ ?_ | refine zzb ?_ | refine zzk ?_
  · exact zzt
  repeat' first | refine zzs ?_ | refine zzb ?_ | refine zzk ?_
  refine tr_region (zzx hnt rfl ?_ (callU rfl rfl rfl rfl rfl rfl rfl hnt (h1) (zzx hnt rfl ?_ (Lex.nil _)))) ?_
  · exact zzt
  · exact zzt
  repeat' first | refine zzs ?_ | refine zzr hnt rfl ?_ ?_ | refine zzd hnt rfl ?_ ?_ | refine zzb ?_ | refine zzk ?_
  · exact zzt
  repeat' first | refine zzs ?_ | refine zzb ?_ | refine zzk ?_
  refine tr_cond rfl (fun hc => ?_) (fun hc => ?_)
  · simp only [zz1, zz2, zz3, zz4, zz5, zz6, zz7, zz8] at hc
    exact absurd trivial hc
  simp only [zz1, zz2, zz3, zz4, zz5, zz6, zz7, zz8] at hc
  repeat' first | refine zzs ?_ | refine zzr hnt rfl ?_ ?_ | refine zzd hnt rfl ?_ ?_ | refine zzb ?_ | refine zzk ?_
  · exact zzt
  refine tr_ret ⟨.inr rfl, _, _, rfl, trivial, ?_⟩
  exact congrArg (fun z : Int => rII (z, 0)) (show (if a < b then b else a) = max a b by rw [Int.max_def]; split <;> split <;> omega)
set_option maxRecDepth 10000 in
set_option maxHeartbeats 2000000 in
theorem vNot_fn (a : Int) (ha : 0 ≤ a ∧ a ≤ 2) : FnD Tryz.prog 336 [.one (.e (eI a))] (rII (2 - a, 0)) := by
  refine fn_intro (T := tab) tOk Tryz.func336 rfl (by kernel_rfl) (by simp [Tryz.ntmps336]) ?_
  intro X hX
  have hnt : X.nt = 13 := hX
  clear hX
  have h1 := vtruth_fn [a] (by simp)
  rw [show vtF [a] = if a < 0 ∨ 2 < a then 2 else 0 from rfl, if_neg (by omega)] at h1
  repeat' first | refine zzs ?_ | refine zzr hnt rfl ?_ ?_ | refine zzd hnt rfl ?_ ?_ | refine zzb ?_ | refine zzk ?_
  · exact zzt
  repeat' first | refine zzs ?_ | refine zzb ?_ | refine zzk ?_
  refine tr_region (zzx hnt rfl ?_ (callU rfl rfl rfl rfl rfl rfl rfl hnt (h1) (zzx hnt rfl ?_ (Lex.nil _)))) ?_
  · exact zzt
  · exact zzt
  repeat' first | refine zzs ?_ | refine zzr hnt rfl ?_ ?_ | refine zzd hnt rfl ?_ ?_ | refine zzb ?_ | refine zzk ?_
  · exact zzt
  repeat' first | refine zzs ?_ | refine zzb ?_ | refine zzk ?_
  refine tr_cond rfl (fun hc => ?_) (fun hc => ?_)
  · simp only [zz1, zz2, zz3, zz4, zz5, zz6, zz7, zz8] at hc
    exact absurd trivial hc
  simp only [zz1, zz2, zz3, zz4, zz5, zz6, zz7, zz8] at hc
  repeat' first | refine zzs ?_ | refine zzr hnt rfl ?_ ?_ | refine zzd hnt rfl ?_ ?_ | refine zzb ?_ | refine zzk ?_
  · exact zzt
  refine tr_ret ⟨.inr rfl, _, _, rfl, trivial, ?_⟩
  rw [wrap64_id (by omega) (by omega)]
  rfl
def tO (v : Val) : Int := if v.k = 0 then 1 else 2 * v.i
def lgF (op : Int) (v w : Val) : Val × Int := if (v.k ≠ 0 ∧ v.k ≠ 1) ∨ (w.k ≠ 0 ∧ w.k ≠ 1) then (val0, 2) else (trV (if op = 16 then max (tO v) (tO w) else min (tO v) (tO w)), 0)
theorem pt_ok {v : Val} (h : chk v = 0) (hk : v.k = 0 ∨ v.k = 1) : ptF v = (tO v, true) ∧ 0 ≤ tO v ∧ tO v ≤ 2 := by
  unfold ptF tO
  obtain ⟨_, _, _, _, _, _, h4⟩ := chk_cases h
  by_cases h0 : v.k = 0
  · rw [if_pos h0, if_pos h0]
    exact ⟨rfl, by decide, by decide⟩
  · have h1 : v.k = 1 := by omega
    rw [if_neg h0, if_neg h0, if_pos h1]
    rcases h4 h1 with h | h <;> rw [h] <;> exact ⟨rfl, by decide, by decide⟩
theorem pt_no {v : Val} (hk : ¬ (v.k = 0 ∨ v.k = 1)) : ptF v = (0, false) := by
  unfold ptF
  rw [if_neg (by omega), if_neg (by omega)]
set_option maxRecDepth 10000 in
set_option maxHeartbeats 2000000 in
theorem logic_fn (op : Int) (v w : Val) (hv : chk v = 0) (hw : chk w = 0) : FnD Tryz.prog 326 [.one (.e (eI op)), .agg (.es (eVal v)), .agg (.es (eVal w))] (rVE (lgF op v w)) := by
  refine fn_intro (T := tab) tOk Tryz.func326 rfl (by kernel_rfl) (by simp [Tryz.ntmps326]) ?_
  intro X hX
  have hnt : X.nt = 47 := hX
  clear hX
  have h1 := part_fn v
  have h2 := part_fn w
  repeat' first | refine zzs ?_ | refine zzr hnt rfl ?_ ?_ | refine zzd hnt rfl ?_ ?_ | refine zzb ?_ | refine zzk ?_
  · exact zzt
  by_cases kv : v.k = 0 ∨ v.k = 1
  · obtain ⟨p1, p2, p3⟩ := pt_ok hv kv
    rw [p1] at h1
    by_cases kw : w.k = 0 ∨ w.k = 1
    · obtain ⟨q1, q2, q3⟩ := pt_ok hw kw
      rw [q1] at h2
      have hF : lgF op v w = (trV (if op = 16 then max (tO v) (tO w) else min (tO v) (tO w)), 0) := if_neg (by omega)
      rw [hF]
      have h3 := vAnd_fn _ _ ⟨p2, p3⟩ ⟨q2, q3⟩
      have h4 := vOr_fn _ _ ⟨p2, p3⟩ ⟨q2, q3⟩
      generalize tO v = a at *
      generalize tO w = b at *
      repeat' first | refine zzs ?_ | refine zzb ?_ | refine zzk ?_
      refine tr_region (zzx hnt rfl ?_ (call rfl rfl rfl rfl rfl rfl rfl hnt (h1) (zzx hnt rfl ?_ (Lex.nil _)))) ?_
      · exact zzt
      · exact zzt
      repeat' first | refine zzs ?_ | refine zzb ?_ | refine zzk ?_
      refine tr_region (zzx hnt rfl ?_ (call rfl rfl rfl rfl rfl rfl rfl hnt (h2) (zzx hnt rfl ?_ (Lex.nil _)))) ?_
      · exact zzt
      · exact zzt
      repeat' first | refine zzs ?_ | refine zzr hnt rfl ?_ ?_ | refine zzd hnt rfl ?_ ?_ | refine zzb ?_ | refine zzk ?_
      · exact zzt
      repeat' first | refine zzs ?_ | refine zzb ?_ | refine zzk ?_
      refine tr_cond rfl (fun hc => ?_) (fun hc => ?_)
      · exact absurd (show false = true from hc) Bool.noConfusion
      repeat' first | refine zzs ?_ | refine zzb ?_ | refine zzk ?_
      refine tr_region (zzx hnt rfl ?_ (call rfl rfl rfl rfl rfl rfl rfl hnt (h3) (zzx hnt rfl ?_ (Lex.nil _)))) ?_
      · exact zzt
      · exact zzt
      repeat' first | refine zzs ?_ | refine zzr hnt rfl ?_ ?_ | refine zzd hnt rfl ?_ ?_ | refine zzb ?_ | refine zzk ?_
      · exact zzt
      repeat' first | refine zzs ?_ | refine zzb ?_ | refine zzk ?_
      refine tr_cond rfl (fun hc => ?_) (fun hc => ?_)
      · simp only [zz1, zz2, zz3, zz4, zz5, zz6, zz7, zz8] at hc
        rw [if_pos hc]
        repeat' first | refine zzs ?_ | refine zzb ?_ | refine zzk ?_
        refine tr_region (zzx hnt rfl ?_ (call rfl rfl rfl rfl rfl rfl rfl hnt (h4) (zzx hnt rfl ?_ (Lex.nil _)))) ?_
        · exact zzt
        · exact zzt
        repeat' first | refine zzs ?_ | refine zzb ?_ | refine zzk ?_
        refine tr_region (zzx hnt rfl ?_ (call rfl rfl rfl rfl rfl rfl rfl hnt (truth_fn _) (zzx hnt rfl ?_ (Lex.nil _)))) ?_
        · exact zzt
        · exact zzt
        exact tr_ret ⟨.inr rfl, _, _, rfl, zzp, rfl⟩
      simp only [zz1, zz2, zz3, zz4, zz5, zz6, zz7, zz8] at hc
      rw [if_neg hc]
      repeat' first | refine zzs ?_ | refine zzb ?_ | refine zzk ?_
      refine tr_region (zzx hnt rfl ?_ (call rfl rfl rfl rfl rfl rfl rfl hnt (truth_fn _) (zzx hnt rfl ?_ (Lex.nil _)))) ?_
      · exact zzt
      · exact zzt
      exact tr_ret ⟨.inr rfl, _, _, rfl, zzp, rfl⟩
    · rw [pt_no kw] at h2
      have hF : lgF op v w = (val0, 2) := if_pos (by omega)
      rw [hF]
      repeat' first | refine zzs ?_ | refine zzb ?_ | refine zzk ?_
      refine tr_region (zzx hnt rfl ?_ (call rfl rfl rfl rfl rfl rfl rfl hnt (h1) (zzx hnt rfl ?_ (Lex.nil _)))) ?_
      · exact zzt
      · exact zzt
      repeat' first | refine zzs ?_ | refine zzb ?_ | refine zzk ?_
      refine tr_region (zzx hnt rfl ?_ (call rfl rfl rfl rfl rfl rfl rfl hnt (h2) (zzx hnt rfl ?_ (Lex.nil _)))) ?_
      · exact zzt
      · exact zzt
      repeat' first | refine zzs ?_ | refine zzr hnt rfl ?_ ?_ | refine zzd hnt rfl ?_ ?_ | refine zzb ?_ | refine zzk ?_
      · exact zzt
      repeat' first | refine zzs ?_ | refine zzb ?_ | refine zzk ?_
      refine tr_cond rfl (fun hc => ?_) (fun hc => ?_)
      · repeat' first | refine zzs ?_ | refine zzr hnt rfl ?_ ?_ | refine zzd hnt rfl ?_ ?_ | refine zzb ?_ | refine zzk ?_
        · exact zzt
        exact tr_ret ⟨.inr rfl, _, _, rfl, zzp, rfl⟩
      exact absurd (show true = false from hc) Bool.noConfusion
  · rw [pt_no kv] at h1
    have hF : lgF op v w = (val0, 2) := if_pos (by omega)
    rw [hF]
    repeat' first | refine zzs ?_ | refine zzb ?_ | refine zzk ?_
    refine tr_region (zzx hnt rfl ?_ (call rfl rfl rfl rfl rfl rfl rfl hnt (h1) (zzx hnt rfl ?_ (Lex.nil _)))) ?_
    · exact zzt
    · exact zzt
    repeat' first | refine zzs ?_ | refine zzb ?_ | refine zzk ?_
    refine tr_region (zzx hnt rfl ?_ (call rfl rfl rfl rfl rfl rfl rfl hnt (h2) (zzx hnt rfl ?_ (Lex.nil _)))) ?_
    · exact zzt
    · exact zzt
    repeat' first | refine zzs ?_ | refine zzr hnt rfl ?_ ?_ | refine zzd hnt rfl ?_ ?_ | refine zzb ?_ | refine zzk ?_
    · exact zzt
    repeat' first | refine zzs ?_ | refine zzb ?_ | refine zzk ?_
    refine tr_cond rfl (fun hc => ?_) (fun hc => ?_)
    · repeat' first | refine zzs ?_ | refine zzr hnt rfl ?_ ?_ | refine zzd hnt rfl ?_ ?_ | refine zzb ?_ | refine zzk ?_
      · exact zzt
      exact tr_ret ⟨.inr rfl, _, _, rfl, zzp, rfl⟩
    exact absurd (show true = false from hc) Bool.noConfusion
end Go.Proofs.YthnadkafegmacaaGreatDoor
namespace Go.Proofs.YthnadkafegmacaaGreatDoor
open Go Go.RowKit Go.Proofs.YthnadkafegmacaaGreatDoor.Ab
set_option linter.unusedSimpArgs false
set_option linter.unusedVariables false

def rcF (s : Byt) : Int := ((runes (strB s)).length : Int)
theorem runesF_len (s : ByteArray) : ∀ (f i : Nat), (runesF s f i).length ≤ f
  | 0, _ => Nat.le_refl _
  | f + 1, i => by
    rw [runesF]
    split
    · rw [List.length_cons]; exact Nat.succ_le_succ (runesF_len s f _)
    · exact Nat.zero_le _
set_option maxRecDepth 10000 in
set_option maxHeartbeats 2000000 in
theorem runeCount_fn (s : Byt) (hs : s.length ≤ 1000) : FnD Tryz.prog 187 [.one (.e (eT s))] (.one (.e (eI (rcF s)))) := by
  refine fn_intro (T := tab) tOk Tryz.func187 rfl (by kernel_rfl) (by simp [Tryz.ntmps187]) ?_
  intro X hX
  have hnt : X.nt = 10 := hX
  clear hX
  have hl := runesF_len (strB s) (strB s).size 0
  have ls : (strB s).size = s.length := strB_size s
  repeat' first | refine zzs ?_ | refine zzb ?_ | refine zzk ?_
  first | refine zzr hnt rfl ?_ ?_ | refine zzd hnt rfl ?_ ?_
  · exact zzt
  repeat' first | refine zzs ?_ | refine zzb ?_ | refine zzk ?_
  first | refine zzr hnt rfl ?_ ?_ | refine zzd hnt rfl ?_ ?_
  · exact zzt
  repeat' first | refine zzs ?_ | refine zzb ?_ | refine zzk ?_
  refine tr_loop (σ := Nat × List (Nat × Nat) × Nat) (fun x => St.of [(2, .one (.e (eI (x.2.2 : Int)))), (4, .one (.ptr 4 0 0))] [(4, ⟨0, .raw (.iter (strB s) x.1 x.2.1), 0⟩)]) (fun x => x.2.1.length + x.2.2 = (runes (strB s)).length) (fun x => x.2.1.length) ((0, runes (strB s), 0)) (le_of (ad := []) ⟨zzl, zzl, trivial⟩ (memOk_raw rfl rfl rfl trivial)) (Nat.add_zero _) ?_
  rintro ⟨pos, l, n⟩ h
  have hr : (runes (strB s)).length ≤ 1000 := by unfold runes; omega
  dsimp only at h ⊢
  cases l with
  | nil =>
    repeat' first | refine zzs ?_ | refine zzr hnt rfl ?_ ?_ | refine zzd hnt rfl ?_ ?_ | refine zzb ?_ | refine zzk ?_
    · exact zzt
    repeat' first | refine zzs ?_ | refine zzb ?_ | refine zzk ?_
    refine tr_cond rfl (fun hc => ?_) (fun hc => ?_)
    · exact absurd (show false = true from hc) Bool.noConfusion
    refine tr_exit ?_
    have h : n = (runes (strB s)).length := by rw [← h]; simp
    subst h
    repeat' first | refine zzs ?_ | refine zzr hnt rfl ?_ ?_ | refine zzd hnt rfl ?_ ?_ | refine zzb ?_ | refine zzk ?_
    · exact zzt
    exact tr_ret ⟨.inr rfl, _, _, rfl, trivial, rfl⟩
  | cons p l =>
    repeat' first | refine zzs ?_ | refine zzr hnt rfl ?_ ?_ | refine zzd hnt rfl ?_ ?_ | refine zzb ?_ | refine zzk ?_
    · exact zzt
    repeat' first | refine zzs ?_ | refine zzb ?_ | refine zzk ?_
    refine tr_cond rfl (fun hc => ?_) (fun hc => ?_)
    · repeat' first | refine zzs ?_ | refine zzr hnt rfl ?_ ?_ | refine zzd hnt rfl ?_ ?_ | refine zzb ?_ | refine zzk ?_
      · exact zzt
      rw [List.length_cons] at h
      refine ⟨(pos + p.2, l, n + 1), by dsimp only; omega, by dsimp only; rw [List.length_cons]; omega, le_of (ad := []) ⟨congrArg (fun z : Int => E.v (.int .i64 z)) (wrap64_id (n := (n : Int) + 1) (by omega) (by omega)), ⟨rfl, rfl, rfl, rfl, rfl⟩, trivial⟩ (memOk_raw rfl rfl rfl trivial)⟩
    · exact absurd (show true = false from hc) Bool.noConfusion
/-! ### orders -/
theorem cmpI_sw (x y : Int) : cmpI y x = - cmpI x y := by
  unfold cmpI
  split <;> split <;> omega
theorem cmpT_sw : ∀ x y : Byt, cmpT y x = - cmpT x y
  | [], y => by rw [cmpT_nil, cmpT_nil']; unfold cmpI; split <;> split <;> (try split) <;> omega
  | a :: x, [] => by rw [cmpT_nil, cmpT_nil']; unfold cmpI; split <;> split <;> (try split) <;> omega
  | a :: x, b :: y => by
    rw [cmpT_cons, cmpT_cons]
    by_cases h : a = b
    · subst h
      rw [if_pos rfl, if_pos rfl]
      exact cmpT_sw x y
    · have hn : a.toNat ≠ b.toNat := fun e => h (UInt8.toNat_inj.1 e)
      rw [if_neg h, if_neg (fun e => h e.symm)]
      split <;> split <;> omega
theorem ordV_sw (v w : Val) : ordV w v = - ordV v w := by
  unfold ordV
  by_cases h : v.k = w.k
  · rw [if_neg (c := w.k ≠ v.k) (not_not_intro h.symm), if_neg (c := v.k ≠ w.k) (not_not_intro h), ← h]
    by_cases h3 : v.k = 3
    · rw [if_pos h3, if_pos h3]; exact cmpI_sw _ _
    · rw [if_neg h3, if_neg h3]
      by_cases h4 : v.k = 4
      · rw [if_pos h4, if_pos h4]; exact cmpT_sw _ _
      · rw [if_neg h4, if_neg h4]; exact cmpI_sw _ _
  · rw [if_pos (c := w.k ≠ v.k) (fun e => h e.symm), if_pos (c := v.k ≠ w.k) h]; exact cmpI_sw _ _
theorem cmpI_or (x y : Int) : cmpI x y = -1 ∨ cmpI x y = 0 ∨ cmpI x y = 1 := by
  unfold cmpI
  split
  · exact .inl rfl
  · split
    · exact .inr (.inr rfl)
    · exact .inr (.inl rfl)
theorem cmpT_or (x y : Byt) : cmpT x y = -1 ∨ cmpT x y = 0 ∨ cmpT x y = 1 := by
  unfold cmpT
  split
  · exact .inl rfl
  · split
    · exact .inr (.inl rfl)
    · exact .inr (.inr rfl)
theorem ordV_or (v w : Val) : ordV v w = -1 ∨ ordV v w = 0 ∨ ordV v w = 1 := by
  unfold ordV
  repeat' split
  all_goals first | exact cmpI_or _ _ | exact cmpT_or _ _
def cmB (op c : Int) : Bool := if op = 9 then decide (c = 0) else if op = 10 then decide (c ≠ 0) else if op = 11 then decide (c < 0) else if op = 12 then decide (c ≤ 0) else if op = 13 then decide (0 < c) else decide (0 ≤ c)
def cpF (op : Int) (v w : Val) : Val × Int := if v.k = 0 ∨ w.k = 0 then (val0, 0) else if v.k ≠ w.k then (val0, 2) else (bV (cmB op (ordV v w)), 0)
theorem ask_ok {v w : Val} (hv : chk v = 0) (hw : chk w = 0) (q : Int → Bool) : askF v w q = if v.k = 0 ∨ w.k = 0 then (1, 0) else if v.k ≠ w.k then (0, 2) else if q (ordV v w) = true then (2, 0) else (0, 0) := by
  unfold askF
  rw [if_neg (not_not_intro hv), if_neg (not_not_intro hw)]
def cpT (b : Bool) : Int := if b then 2 else 0
def cpA (op : Int) (v w : Val) : Int × Int := if op = 9 ∨ op = 10 then askF v w fun c => decide (c = 0) else if op = 13 ∨ op = 12 then askF w v fun c => decide (c < 0) else askF v w fun c => decide (c < 0)
theorem ask_sw {v w : Val} (hv : chk v = 0) (hw : chk w = 0) (q : Int → Bool) : askF w v q = if v.k = 0 ∨ w.k = 0 then (1, 0) else if v.k ≠ w.k then (0, 2) else if q (- ordV v w) = true then (2, 0) else (0, 0) := by
  rw [ask_ok hw hv, ordV_sw v w]
  by_cases h0 : v.k = 0 ∨ w.k = 0
  · rw [if_pos h0, if_pos h0.symm]
  · rw [if_neg h0, if_neg (fun e => h0 e.symm)]
    by_cases h3 : v.k = w.k
    · rw [if_neg (c := w.k ≠ v.k) (not_not_intro h3.symm), if_neg (c := v.k ≠ w.k) (not_not_intro h3)]
    · rw [if_pos (c := w.k ≠ v.k) (fun e => h3 e.symm), if_pos (c := v.k ≠ w.k) h3]
theorem cpA_eq {op : Int} {v w : Val} (hv : chk v = 0) (hw : chk w = 0) (h1 : 9 ≤ op) (h2 : op ≤ 14) : cpA op v w = if v.k = 0 ∨ w.k = 0 then (1, 0) else if v.k ≠ w.k then (0, 2) else (cpT (if op = 10 ∨ op = 12 ∨ op = 14 then !(cmB op (ordV v w)) else cmB op (ordV v w)), 0) := by
  unfold cpA
  rw [ask_ok hv hw, ask_ok hv hw, ask_sw hv hw]
  by_cases h0 : v.k = 0 ∨ w.k = 0
  · simp only [if_pos h0, ite_self]
  simp only [if_neg h0]
  by_cases h3 : v.k = w.k
  · simp only [if_neg (c := v.k ≠ w.k) (not_not_intro h3)]
    have hop : op = 9 ∨ op = 10 ∨ op = 11 ∨ op = 12 ∨ op = 13 ∨ op = 14 := by omega
    rcases ordV_or v w with h | h | h <;> rw [h] <;> rcases hop with rfl | rfl | rfl | rfl | rfl | rfl <;> rfl
  · simp only [if_pos (c := v.k ≠ w.k) h3, ite_self]
theorem cpF_of {op : Int} {v w : Val} {A : Int × Int} (hA : A = if v.k = 0 ∨ w.k = 0 then (1, 0) else if v.k ≠ w.k then (0, 2) else (cpT (if op = 10 ∨ op = 12 ∨ op = 14 then !(cmB op (ordV v w)) else cmB op (ordV v w)), 0)) :
    (A.2 ≠ 0 → cpF op v w = (val0, A.2)) ∧ (A.2 = 0 → 0 ≤ A.1 ∧ A.1 ≤ 2 ∧ cpF op v w = (trV (if op = 10 ∨ op = 12 ∨ op = 14 then 2 - A.1 else A.1), 0)) := by
  unfold cpF
  subst hA
  by_cases h0 : v.k = 0 ∨ w.k = 0
  · simp only [if_pos h0]
    refine ⟨fun h => absurd rfl h, fun _ => ⟨by decide, by decide, ?_⟩⟩
    split <;> rfl
  simp only [if_neg h0]
  by_cases h3 : v.k = w.k
  · simp only [if_neg (c := v.k ≠ w.k) (not_not_intro h3)]
    refine ⟨fun h => absurd rfl h, fun _ => ?_⟩
    generalize cmB op (ordV v w) = b
    cases b <;> split <;> exact ⟨by decide, by decide, rfl⟩
  · simp only [if_pos (c := v.k ≠ w.k) h3]
    exact ⟨fun _ => by first | rfl | trivial, fun h => absurd (show (2 : Int) = 0 from h) (by decide)⟩
set_option maxRecDepth 10000 in
set_option maxHeartbeats 2000000 in
theorem compare_fn (op : Int) (v w : Val) (hv : chk v = 0) (hw : chk w = 0) (h1 : 9 ≤ op) (h2 : op ≤ 14) : FnG Tryz.prog 329 gK [.one (.e (eI op)), .agg (.es (eVal v)), .agg (.es (eVal w))] (rVE (cpF op v w)) := by
  refine fn_introG (T := tab) tOk Tryz.func329 rfl (by kernel_rfl) (by simp [Tryz.ntmps329]) ?_
  intro X hX
  have hnt : X.nt = 56 := hX
  clear hX
  obtain ⟨k1, k2⟩ := cpF_of (cpA_eq hv hw h1 h2)
  unfold cpA at k1 k2
  have q1 := Less_fn v w
  have q2 := Equal_fn v w
  have q3 := Less_fn w v
  repeat' first | refine zzs ?_ | refine zzr hnt rfl ?_ ?_ | refine zzd hnt rfl ?_ ?_ | refine zzb ?_ | refine zzk ?_
  · exact zzt
  generalize hA : askF v w (fun c => decide (c < 0)) = A at *
  generalize hB : askF v w (fun c => decide (c = 0)) = B at *
  generalize hC : askF w v (fun c => decide (c < 0)) = C at *
  repeat' first | refine zzs ?_ | refine zzb ?_ | refine zzk ?_
  refine tr_region (zzx hnt rfl ?_ (callV rfl rfl rfl rfl rfl rfl rfl hnt rfl (q1) (zzx hnt rfl ?_ (Lex.nil _)))) ?_
  · exact zzt
  · exact zzt
  repeat' first | refine zzs ?_ | refine zzr hnt rfl ?_ ?_ | refine zzd hnt rfl ?_ ?_ | refine zzb ?_ | refine zzk ?_
  · exact zzt
  · exact zzt
  rcases (by omega : op = 9 ∨ op = 10 ∨ op = 11 ∨ op = 12 ∨ op = 13 ∨ op = 14) with rfl | rfl | rfl | rfl | rfl | rfl
  · have k1 : B.2 ≠ 0 → cpF 9 v w = (val0, B.2) := k1
    have k2 : B.2 = 0 → 0 ≤ B.1 ∧ B.1 ≤ 2 ∧ cpF 9 v w = (trV B.1, 0) := k2
    repeat' first | refine zzs ?_ | refine zzb ?_ | refine zzk ?_
    refine tr_cond rfl (fun hc => ?_) (fun hc => ?_)
    rotate_left
    · exact absurd hc (by decide)
    repeat' first | refine zzs ?_ | refine zzb ?_ | refine zzk ?_
    refine tr_cond rfl (fun hc => ?_) (fun hc => ?_)
    rotate_left
    · exact absurd hc (by decide)
    repeat' first | refine zzs ?_ | refine zzb ?_ | refine zzk ?_
    refine tr_region (zzx hnt rfl ?_ (callV rfl rfl rfl rfl rfl rfl rfl hnt rfl (q2) (zzx hnt rfl ?_ (Lex.nil _)))) ?_
    · exact zzt
    · exact zzt
    repeat' first | refine zzs ?_ | refine zzr hnt rfl ?_ ?_ | refine zzd hnt rfl ?_ ?_ | refine zzb ?_ | refine zzk ?_
    · exact zzt
    by_cases he : B.2 = 0
    · obtain ⟨c1, c2, c3⟩ := k2 he
      rw [he, c3]
      repeat' first | refine zzs ?_ | refine zzb ?_ | refine zzk ?_
      refine tr_cond rfl (fun hc => ?_) (fun hc => ?_)
      · exact absurd hc (by decide)
      repeat' first | refine zzs ?_ | refine zzr hnt rfl ?_ ?_ | refine zzd hnt rfl ?_ ?_ | refine zzb ?_ | refine zzk ?_
      · exact zzt
      repeat' first | refine zzs ?_ | refine zzb ?_ | refine zzk ?_
      refine tr_cond rfl (fun hc => ?_) (fun hc => ?_)
      · exact absurd hc (by decide)
      repeat' first | refine zzs ?_ | refine zzb ?_ | refine zzk ?_
      refine tr_region (zzx hnt rfl ?_ (call rfl rfl rfl rfl rfl rfl rfl hnt (truth_fn _) (zzx hnt rfl ?_ (Lex.nil _)))) ?_
      · exact zzt
      · exact zzt
      exact tr_ret ⟨.inr rfl, _, _, rfl, zzp, rfl⟩
    · rw [k1 he]
      repeat' first | refine zzs ?_ | refine zzb ?_ | refine zzk ?_
      refine tr_cond rfl (fun hc => ?_) (fun hc => ?_)
      · repeat' first | refine zzs ?_ | refine zzr hnt rfl ?_ ?_ | refine zzd hnt rfl ?_ ?_ | refine zzb ?_ | refine zzk ?_
        · exact zzt
        exact tr_ret ⟨.inr rfl, _, _, rfl, zzp, rfl⟩
      simp only [zz1, zz2, zz3, zz4, zz5, zz6, zz7, zz8] at hc
      exact absurd hc he
  · have k1 : B.2 ≠ 0 → cpF 10 v w = (val0, B.2) := k1
    have k2 : B.2 = 0 → 0 ≤ B.1 ∧ B.1 ≤ 2 ∧ cpF 10 v w = (trV (2 - B.1), 0) := k2
    repeat' first | refine zzs ?_ | refine zzb ?_ | refine zzk ?_
    refine tr_cond rfl (fun hc => ?_) (fun hc => ?_)
    · exact absurd hc (by decide)
    repeat' first | refine zzs ?_ | refine zzr hnt rfl ?_ ?_ | refine zzd hnt rfl ?_ ?_ | refine zzb ?_ | refine zzk ?_
    · exact zzt
    repeat' first | refine zzs ?_ | refine zzb ?_ | refine zzk ?_
    refine tr_cond rfl (fun hc => ?_) (fun hc => ?_)
    rotate_left
    · exact absurd hc (by decide)
    repeat' first | refine zzs ?_ | refine zzb ?_ | refine zzk ?_
    refine tr_region (zzx hnt rfl ?_ (callV rfl rfl rfl rfl rfl rfl rfl hnt rfl (q2) (zzx hnt rfl ?_ (Lex.nil _)))) ?_
    · exact zzt
    · exact zzt
    repeat' first | refine zzs ?_ | refine zzr hnt rfl ?_ ?_ | refine zzd hnt rfl ?_ ?_ | refine zzb ?_ | refine zzk ?_
    · exact zzt
    by_cases he : B.2 = 0
    · obtain ⟨c1, c2, c3⟩ := k2 he
      rw [he, c3]
      repeat' first | refine zzs ?_ | refine zzb ?_ | refine zzk ?_
      refine tr_cond rfl (fun hc => ?_) (fun hc => ?_)
      · exact absurd hc (by decide)
      repeat' first | refine zzs ?_ | refine zzr hnt rfl ?_ ?_ | refine zzd hnt rfl ?_ ?_ | refine zzb ?_ | refine zzk ?_
      · exact zzt
      repeat' first | refine zzs ?_ | refine zzb ?_ | refine zzk ?_
      refine tr_cond rfl (fun hc => ?_) (fun hc => ?_)
      rotate_left
      · exact absurd hc (by decide)
      have h5 := vNot_fn B.1 ⟨c1, c2⟩
      repeat' first | refine zzs ?_ | refine zzb ?_ | refine zzk ?_
      refine tr_region (zzx hnt rfl ?_ (call rfl rfl rfl rfl rfl rfl rfl hnt (h5) (zzx hnt rfl ?_ (Lex.nil _)))) ?_
      · exact zzt
      · exact zzt
      repeat' first | refine zzs ?_ | refine zzb ?_ | refine zzk ?_
      refine tr_region (zzx hnt rfl ?_ (call rfl rfl rfl rfl rfl rfl rfl hnt (truth_fn _) (zzx hnt rfl ?_ (Lex.nil _)))) ?_
      · exact zzt
      · exact zzt
      exact tr_ret ⟨.inr rfl, _, _, rfl, zzp, rfl⟩
    · rw [k1 he]
      repeat' first | refine zzs ?_ | refine zzb ?_ | refine zzk ?_
      refine tr_cond rfl (fun hc => ?_) (fun hc => ?_)
      · repeat' first | refine zzs ?_ | refine zzr hnt rfl ?_ ?_ | refine zzd hnt rfl ?_ ?_ | refine zzb ?_ | refine zzk ?_
        · exact zzt
        exact tr_ret ⟨.inr rfl, _, _, rfl, zzp, rfl⟩
      simp only [zz1, zz2, zz3, zz4, zz5, zz6, zz7, zz8] at hc
      exact absurd hc he
  · have k1 : A.2 ≠ 0 → cpF 11 v w = (val0, A.2) := k1
    have k2 : A.2 = 0 → 0 ≤ A.1 ∧ A.1 ≤ 2 ∧ cpF 11 v w = (trV A.1, 0) := k2
    repeat' first | refine zzs ?_ | refine zzb ?_ | refine zzk ?_
    refine tr_cond rfl (fun hc => ?_) (fun hc => ?_)
    · exact absurd hc (by decide)
    repeat' first | refine zzs ?_ | refine zzr hnt rfl ?_ ?_ | refine zzd hnt rfl ?_ ?_ | refine zzb ?_ | refine zzk ?_
    · exact zzt
    repeat' first | refine zzs ?_ | refine zzb ?_ | refine zzk ?_
    refine tr_cond rfl (fun hc => ?_) (fun hc => ?_)
    · exact absurd hc (by decide)
    repeat' first | refine zzs ?_ | refine zzr hnt rfl ?_ ?_ | refine zzd hnt rfl ?_ ?_ | refine zzb ?_ | refine zzk ?_
    · exact zzt
    repeat' first | refine zzs ?_ | refine zzb ?_ | refine zzk ?_
    refine tr_cond rfl (fun hc => ?_) (fun hc => ?_)
    · exact absurd hc (by decide)
    repeat' first | refine zzs ?_ | refine zzr hnt rfl ?_ ?_ | refine zzd hnt rfl ?_ ?_ | refine zzb ?_ | refine zzk ?_
    · exact zzt
    repeat' first | refine zzs ?_ | refine zzb ?_ | refine zzk ?_
    refine tr_cond rfl (fun hc => ?_) (fun hc => ?_)
    · exact absurd hc (by decide)
    repeat' first | refine zzs ?_ | refine zzr hnt rfl ?_ ?_ | refine zzd hnt rfl ?_ ?_ | refine zzb ?_ | refine zzk ?_
    · exact zzt
    by_cases he : A.2 = 0
    · obtain ⟨c1, c2, c3⟩ := k2 he
      rw [he, c3]
      repeat' first | refine zzs ?_ | refine zzb ?_ | refine zzk ?_
      refine tr_cond rfl (fun hc => ?_) (fun hc => ?_)
      · exact absurd hc (by decide)
      repeat' first | refine zzs ?_ | refine zzr hnt rfl ?_ ?_ | refine zzd hnt rfl ?_ ?_ | refine zzb ?_ | refine zzk ?_
      · exact zzt
      repeat' first | refine zzs ?_ | refine zzb ?_ | refine zzk ?_
      refine tr_cond rfl (fun hc => ?_) (fun hc => ?_)
      · exact absurd hc (by decide)
      repeat' first | refine zzs ?_ | refine zzb ?_ | refine zzk ?_
      refine tr_region (zzx hnt rfl ?_ (call rfl rfl rfl rfl rfl rfl rfl hnt (truth_fn _) (zzx hnt rfl ?_ (Lex.nil _)))) ?_
      · exact zzt
      · exact zzt
      exact tr_ret ⟨.inr rfl, _, _, rfl, zzp, rfl⟩
    · rw [k1 he]
      repeat' first | refine zzs ?_ | refine zzb ?_ | refine zzk ?_
      refine tr_cond rfl (fun hc => ?_) (fun hc => ?_)
      · repeat' first | refine zzs ?_ | refine zzr hnt rfl ?_ ?_ | refine zzd hnt rfl ?_ ?_ | refine zzb ?_ | refine zzk ?_
        · exact zzt
        exact tr_ret ⟨.inr rfl, _, _, rfl, zzp, rfl⟩
      simp only [zz1, zz2, zz3, zz4, zz5, zz6, zz7, zz8] at hc
      exact absurd hc he
  · have k1 : C.2 ≠ 0 → cpF 12 v w = (val0, C.2) := k1
    have k2 : C.2 = 0 → 0 ≤ C.1 ∧ C.1 ≤ 2 ∧ cpF 12 v w = (trV (2 - C.1), 0) := k2
    repeat' first | refine zzs ?_ | refine zzb ?_ | refine zzk ?_
    refine tr_cond rfl (fun hc => ?_) (fun hc => ?_)
    · exact absurd hc (by decide)
    repeat' first | refine zzs ?_ | refine zzr hnt rfl ?_ ?_ | refine zzd hnt rfl ?_ ?_ | refine zzb ?_ | refine zzk ?_
    · exact zzt
    repeat' first | refine zzs ?_ | refine zzb ?_ | refine zzk ?_
    refine tr_cond rfl (fun hc => ?_) (fun hc => ?_)
    · exact absurd hc (by decide)
    repeat' first | refine zzs ?_ | refine zzr hnt rfl ?_ ?_ | refine zzd hnt rfl ?_ ?_ | refine zzb ?_ | refine zzk ?_
    · exact zzt
    repeat' first | refine zzs ?_ | refine zzb ?_ | refine zzk ?_
    refine tr_cond rfl (fun hc => ?_) (fun hc => ?_)
    · exact absurd hc (by decide)
    repeat' first | refine zzs ?_ | refine zzr hnt rfl ?_ ?_ | refine zzd hnt rfl ?_ ?_ | refine zzb ?_ | refine zzk ?_
    · exact zzt
    repeat' first | refine zzs ?_ | refine zzb ?_ | refine zzk ?_
    refine tr_cond rfl (fun hc => ?_) (fun hc => ?_)
    rotate_left
    · exact absurd hc (by decide)
    repeat' first | refine zzs ?_ | refine zzb ?_ | refine zzk ?_
    refine tr_region (zzx hnt rfl ?_ (callV rfl rfl rfl rfl rfl rfl rfl hnt rfl (q3) (zzx hnt rfl ?_ (Lex.nil _)))) ?_
    · exact zzt
    · exact zzt
    repeat' first | refine zzs ?_ | refine zzr hnt rfl ?_ ?_ | refine zzd hnt rfl ?_ ?_ | refine zzb ?_ | refine zzk ?_
    · exact zzt
    by_cases he : C.2 = 0
    · obtain ⟨c1, c2, c3⟩ := k2 he
      rw [he, c3]
      repeat' first | refine zzs ?_ | refine zzb ?_ | refine zzk ?_
      refine tr_cond rfl (fun hc => ?_) (fun hc => ?_)
      · exact absurd hc (by decide)
      repeat' first | refine zzs ?_ | refine zzr hnt rfl ?_ ?_ | refine zzd hnt rfl ?_ ?_ | refine zzb ?_ | refine zzk ?_
      · exact zzt
      repeat' first | refine zzs ?_ | refine zzb ?_ | refine zzk ?_
      refine tr_cond rfl (fun hc => ?_) (fun hc => ?_)
      rotate_left
      · exact absurd hc (by decide)
      have h5 := vNot_fn C.1 ⟨c1, c2⟩
      repeat' first | refine zzs ?_ | refine zzb ?_ | refine zzk ?_
      refine tr_region (zzx hnt rfl ?_ (call rfl rfl rfl rfl rfl rfl rfl hnt (h5) (zzx hnt rfl ?_ (Lex.nil _)))) ?_
      · exact zzt
      · exact zzt
      repeat' first | refine zzs ?_ | refine zzb ?_ | refine zzk ?_
      refine tr_region (zzx hnt rfl ?_ (call rfl rfl rfl rfl rfl rfl rfl hnt (truth_fn _) (zzx hnt rfl ?_ (Lex.nil _)))) ?_
      · exact zzt
      · exact zzt
      exact tr_ret ⟨.inr rfl, _, _, rfl, zzp, rfl⟩
    · rw [k1 he]
      repeat' first | refine zzs ?_ | refine zzb ?_ | refine zzk ?_
      refine tr_cond rfl (fun hc => ?_) (fun hc => ?_)
      · repeat' first | refine zzs ?_ | refine zzr hnt rfl ?_ ?_ | refine zzd hnt rfl ?_ ?_ | refine zzb ?_ | refine zzk ?_
        · exact zzt
        exact tr_ret ⟨.inr rfl, _, _, rfl, zzp, rfl⟩
      simp only [zz1, zz2, zz3, zz4, zz5, zz6, zz7, zz8] at hc
      exact absurd hc he
  · have k1 : C.2 ≠ 0 → cpF 13 v w = (val0, C.2) := k1
    have k2 : C.2 = 0 → 0 ≤ C.1 ∧ C.1 ≤ 2 ∧ cpF 13 v w = (trV C.1, 0) := k2
    repeat' first | refine zzs ?_ | refine zzb ?_ | refine zzk ?_
    refine tr_cond rfl (fun hc => ?_) (fun hc => ?_)
    · exact absurd hc (by decide)
    repeat' first | refine zzs ?_ | refine zzr hnt rfl ?_ ?_ | refine zzd hnt rfl ?_ ?_ | refine zzb ?_ | refine zzk ?_
    · exact zzt
    repeat' first | refine zzs ?_ | refine zzb ?_ | refine zzk ?_
    refine tr_cond rfl (fun hc => ?_) (fun hc => ?_)
    · exact absurd hc (by decide)
    repeat' first | refine zzs ?_ | refine zzr hnt rfl ?_ ?_ | refine zzd hnt rfl ?_ ?_ | refine zzb ?_ | refine zzk ?_
    · exact zzt
    repeat' first | refine zzs ?_ | refine zzb ?_ | refine zzk ?_
    refine tr_cond rfl (fun hc => ?_) (fun hc => ?_)
    rotate_left
    · exact absurd hc (by decide)
    repeat' first | refine zzs ?_ | refine zzb ?_ | refine zzk ?_
    refine tr_cond rfl (fun hc => ?_) (fun hc => ?_)
    rotate_left
    · exact absurd hc (by decide)
    repeat' first | refine zzs ?_ | refine zzb ?_ | refine zzk ?_
    refine tr_region (zzx hnt rfl ?_ (callV rfl rfl rfl rfl rfl rfl rfl hnt rfl (q3) (zzx hnt rfl ?_ (Lex.nil _)))) ?_
    · exact zzt
    · exact zzt
    repeat' first | refine zzs ?_ | refine zzr hnt rfl ?_ ?_ | refine zzd hnt rfl ?_ ?_ | refine zzb ?_ | refine zzk ?_
    · exact zzt
    by_cases he : C.2 = 0
    · obtain ⟨c1, c2, c3⟩ := k2 he
      rw [he, c3]
      repeat' first | refine zzs ?_ | refine zzb ?_ | refine zzk ?_
      refine tr_cond rfl (fun hc => ?_) (fun hc => ?_)
      · exact absurd hc (by decide)
      repeat' first | refine zzs ?_ | refine zzr hnt rfl ?_ ?_ | refine zzd hnt rfl ?_ ?_ | refine zzb ?_ | refine zzk ?_
      · exact zzt
      repeat' first | refine zzs ?_ | refine zzb ?_ | refine zzk ?_
      refine tr_cond rfl (fun hc => ?_) (fun hc => ?_)
      · exact absurd hc (by decide)
      repeat' first | refine zzs ?_ | refine zzb ?_ | refine zzk ?_
      refine tr_region (zzx hnt rfl ?_ (call rfl rfl rfl rfl rfl rfl rfl hnt (truth_fn _) (zzx hnt rfl ?_ (Lex.nil _)))) ?_
      · exact zzt
      · exact zzt
      exact tr_ret ⟨.inr rfl, _, _, rfl, zzp, rfl⟩
    · rw [k1 he]
      repeat' first | refine zzs ?_ | refine zzb ?_ | refine zzk ?_
      refine tr_cond rfl (fun hc => ?_) (fun hc => ?_)
      · repeat' first | refine zzs ?_ | refine zzr hnt rfl ?_ ?_ | refine zzd hnt rfl ?_ ?_ | refine zzb ?_ | refine zzk ?_
        · exact zzt
        exact tr_ret ⟨.inr rfl, _, _, rfl, zzp, rfl⟩
      simp only [zz1, zz2, zz3, zz4, zz5, zz6, zz7, zz8] at hc
      exact absurd hc he
  · have k1 : A.2 ≠ 0 → cpF 14 v w = (val0, A.2) := k1
    have k2 : A.2 = 0 → 0 ≤ A.1 ∧ A.1 ≤ 2 ∧ cpF 14 v w = (trV (2 - A.1), 0) := k2
    repeat' first | refine zzs ?_ | refine zzb ?_ | refine zzk ?_
    refine tr_cond rfl (fun hc => ?_) (fun hc => ?_)
    · exact absurd hc (by decide)
    repeat' first | refine zzs ?_ | refine zzr hnt rfl ?_ ?_ | refine zzd hnt rfl ?_ ?_ | refine zzb ?_ | refine zzk ?_
    · exact zzt
    repeat' first | refine zzs ?_ | refine zzb ?_ | refine zzk ?_
    refine tr_cond rfl (fun hc => ?_) (fun hc => ?_)
    · exact absurd hc (by decide)
    repeat' first | refine zzs ?_ | refine zzr hnt rfl ?_ ?_ | refine zzd hnt rfl ?_ ?_ | refine zzb ?_ | refine zzk ?_
    · exact zzt
    repeat' first | refine zzs ?_ | refine zzb ?_ | refine zzk ?_
    refine tr_cond rfl (fun hc => ?_) (fun hc => ?_)
    · exact absurd hc (by decide)
    repeat' first | refine zzs ?_ | refine zzr hnt rfl ?_ ?_ | refine zzd hnt rfl ?_ ?_ | refine zzb ?_ | refine zzk ?_
    · exact zzt
    repeat' first | refine zzs ?_ | refine zzb ?_ | refine zzk ?_
    refine tr_cond rfl (fun hc => ?_) (fun hc => ?_)
    · exact absurd hc (by decide)
    repeat' first | refine zzs ?_ | refine zzr hnt rfl ?_ ?_ | refine zzd hnt rfl ?_ ?_ | refine zzb ?_ | refine zzk ?_
    · exact zzt
    by_cases he : A.2 = 0
    · obtain ⟨c1, c2, c3⟩ := k2 he
      rw [he, c3]
      repeat' first | refine zzs ?_ | refine zzb ?_ | refine zzk ?_
      refine tr_cond rfl (fun hc => ?_) (fun hc => ?_)
      · exact absurd hc (by decide)
      repeat' first | refine zzs ?_ | refine zzr hnt rfl ?_ ?_ | refine zzd hnt rfl ?_ ?_ | refine zzb ?_ | refine zzk ?_
      · exact zzt
      repeat' first | refine zzs ?_ | refine zzb ?_ | refine zzk ?_
      refine tr_cond rfl (fun hc => ?_) (fun hc => ?_)
      rotate_left
      · exact absurd hc (by decide)
      have h5 := vNot_fn A.1 ⟨c1, c2⟩
      repeat' first | refine zzs ?_ | refine zzb ?_ | refine zzk ?_
      refine tr_region (zzx hnt rfl ?_ (call rfl rfl rfl rfl rfl rfl rfl hnt (h5) (zzx hnt rfl ?_ (Lex.nil _)))) ?_
      · exact zzt
      · exact zzt
      repeat' first | refine zzs ?_ | refine zzb ?_ | refine zzk ?_
      refine tr_region (zzx hnt rfl ?_ (call rfl rfl rfl rfl rfl rfl rfl hnt (truth_fn _) (zzx hnt rfl ?_ (Lex.nil _)))) ?_
      · exact zzt
      · exact zzt
      exact tr_ret ⟨.inr rfl, _, _, rfl, zzp, rfl⟩
    · rw [k1 he]
      repeat' first | refine zzs ?_ | refine zzb ?_ | refine zzk ?_
      refine tr_cond rfl (fun hc => ?_) (fun hc => ?_)
      · repeat' first | refine zzs ?_ | refine zzr hnt rfl ?_ ?_ | refine zzd hnt rfl ?_ ?_ | refine zzb ?_ | refine zzk ?_
        · exact zzt
        exact tr_ret ⟨.inr rfl, _, _, rfl, zzp, rfl⟩
      simp only [zz1, zz2, zz3, zz4, zz5, zz6, zz7, zz8] at hc
      exact absurd hc he
end Go.Proofs.YthnadkafegmacaaGreatDoor
namespace Go.Proofs.YthnadkafegmacaaGreatDoor
open Go Go.RowKit Go.Proofs.YthnadkafegmacaaGreatDoor.Ab
set_option linter.unusedSimpArgs false
set_option linter.unusedVariables false

def fitI (n : Int) : Prop := -9223372036854775808 ≤ n ∧ n ≤ 9223372036854775807
instance (n : Int) : Decidable (fitI n) := inferInstanceAs (Decidable (_ ∧ _))
theorem wr64 (n : Int) : ∃ k : Int, IntKind.i64.wrap n = n + k * 18446744073709551616 ∧ fitI (IntKind.i64.wrap n) := by
  have h : IntKind.i64.wrap n = if n % 18446744073709551616 ≥ 9223372036854775808 then n % 18446744073709551616 - 18446744073709551616 else n % 18446744073709551616 := by
    unfold IntKind.wrap
    simp [IntKind.bits, IntKind.signed]
  unfold fitI
  rw [h]
  by_cases hc : n % 18446744073709551616 ≥ 9223372036854775808
  · rw [if_pos hc]
    exact ⟨- (n / 18446744073709551616) - 1, by omega, by omega, by omega⟩
  · rw [if_neg hc]
    exact ⟨- (n / 18446744073709551616), by omega, by omega, by omega⟩
theorem wr_id {n : Int} (h : fitI n) : IntKind.i64.wrap n = n := wrap64_id h.1 h.2
def rkN (op a b : Int) : Val × Int :=
  if op = 5 then (if fitI (a + b) then (nV (a + b), 0) else (val0, 6))
  else if op = 6 then (if fitI (a - b) then (nV (a - b), 0) else (val0, 6))
  else if op = 7 then (if fitI (a * b) then (nV (a * b), 0) else (val0, 6))
  else if b = 0 then (val0, 7) else if fitI (a.tdiv b) then (nV (a.tdiv b), 0) else (val0, 6)
theorem beqOr (P Q R : Prop) [Decidable P] [Decidable Q] [Decidable R] : (bif (decide P == decide Q) then true else decide R) = decide ((P ↔ Q) ∨ R) := by
  by_cases h1 : P <;> by_cases h2 : Q <;> by_cases h3 : R <;> simp [h1, h2, h3]
theorem add_ok {a b : Int} (ha : fitI a) (hb : fitI b) : (bif (decide (a < IntKind.i64.wrap (a + b)) == decide (0 < b)) then true else decide (b = 0)) = decide (fitI (a + b)) := by
  obtain ⟨k, h1, h2⟩ := wr64 (a + b)
  rw [beqOr]
  refine decide_eq_decide.2 ?_
  unfold fitI at *
  generalize IntKind.i64.wrap (a + b) = p at *
  omega
theorem sub_ok {a b : Int} (ha : fitI a) (hb : fitI b) : (bif (decide (IntKind.i64.wrap (a - b) < a) == decide (0 < b)) then true else decide (b = 0)) = decide (fitI (a - b)) := by
  obtain ⟨k, h1, h2⟩ := wr64 (a - b)
  rw [beqOr]
  refine decide_eq_decide.2 ?_
  unfold fitI at *
  generalize IntKind.i64.wrap (a - b) = p at *
  omega
theorem mul_ok {a b : Int} (ha : fitI a) (hb : fitI b) (a0 : a ≠ 0) (b0 : b ≠ 0) : (¬ (a = -1 ∧ b = -9223372036854775808) ∧ ¬ (b = -1 ∧ a = -9223372036854775808) ∧ IntKind.i64.wrap ((IntKind.i64.wrap (a * b)).tdiv b) = a) ↔ fitI (a * b) := by
  obtain ⟨k, h1, h2⟩ := wr64 (a * b)
  generalize IntKind.i64.wrap (a * b) = p at *
  constructor
  · rintro ⟨c1, c2, c3⟩
    by_cases hs : p = -9223372036854775808 ∧ b = -1
    · rw [hs.1, hs.2] at c3
      have e : IntKind.i64.wrap (Int.tdiv (-9223372036854775808) (-1)) = -9223372036854775808 := by decide
      exact absurd ⟨hs.2, c3.symm.trans e⟩ c2
    · have hd : (p.tdiv b).natAbs = p.natAbs / b.natAbs := Int.natAbs_tdiv p b
      have hb1 : 1 ≤ b.natAbs := by omega
      have hle : p.natAbs / b.natAbs ≤ p.natAbs := Nat.div_le_self _ _
      have hf : fitI (p.tdiv b) := by
        unfold fitI at *
        by_cases hm : p = -9223372036854775808
        · have hb2 : b ≠ -1 := fun e => hs ⟨hm, e⟩
          by_cases hb3 : b = 1
          · subst hb3
            rw [Int.tdiv_one]
            exact h2
          · have : p.natAbs / b.natAbs ≤ p.natAbs / 2 := Nat.div_le_div_left (by omega) (by decide)
            omega
        · omega
      rw [wr_id hf] at c3
      have hmod : p = b * a + p.tmod b := by have := Int.mul_tdiv_add_tmod p b; rw [c3] at this; exact this.symm
      have hr : (p.tmod b).natAbs < b.natAbs := by
        rw [Int.natAbs_tmod]
        exact Nat.mod_lt _ (by omega)
      have : k = 0 := by
        rw [Int.mul_comm b a] at hmod
        unfold fitI at *
        omega
      subst this
      rw [Int.zero_mul, Int.add_zero] at h1
      rw [← h1]
      exact h2
  · intro hf
    have hk : k = 0 := by unfold fitI at *; omega
    subst hk
    rw [Int.zero_mul, Int.add_zero] at h1
    subst h1
    rw [Int.mul_tdiv_cancel _ b0, wr_id ha]
    unfold fitI at hf
    refine ⟨fun h => ?_, fun h => ?_, rfl⟩
    · rw [h.1, h.2] at hf; exact absurd hf.2 (by decide)
    · rw [h.1, h.2] at hf; exact absurd hf.2 (by decide)
theorem div_ok {a b : Int} (ha : fitI a) (hb : fitI b) (b0 : b ≠ 0) : ¬ (a = -9223372036854775808 ∧ b = -1) ↔ fitI (a.tdiv b) := by
  have hd : (a.tdiv b).natAbs = a.natAbs / b.natAbs := Int.natAbs_tdiv a b
  have hb1 : 1 ≤ b.natAbs := by omega
  have hle : a.natAbs / b.natAbs ≤ a.natAbs := Nat.div_le_self _ _
  constructor
  · intro h
    unfold fitI at *
    by_cases hm : a = -9223372036854775808
    · have hb2 : b ≠ -1 := fun e => h ⟨hm, e⟩
      by_cases hb3 : b = 1
      · subst hb3
        rw [Int.tdiv_one]
        exact ha
      · have : a.natAbs / b.natAbs ≤ a.natAbs / 2 := Nat.div_le_div_left (by omega) (by decide)
        omega
    · omega
  · intro h e
    rw [e.1, e.2] at h
    exact absurd h.2 (by decide)
end Go.Proofs.YthnadkafegmacaaGreatDoor
namespace Go.Proofs.YthnadkafegmacaaGreatDoor
open Go Go.RowKit Go.Proofs.YthnadkafegmacaaGreatDoor.Ab
set_option linter.unusedSimpArgs false
set_option linter.unusedVariables false

theorem adF_iff (k : Int) (v w : Val) : adF k v w = true ↔ (v.k = 0 ∨ v.k = k) ∧ (w.k = 0 ∨ w.k = k) := decide_eq_true_iff
theorem nul2 (v w : Val) : (bif decide (v.k = 0) then true else decide (w.k = 0)) = decide (v.k = 0 ∨ w.k = 0) := by
  by_cases h1 : v.k = 0 <;> by_cases h2 : w.k = 0 <;> simp [h1, h2]
def jnF (v w : Val) : Val × Int := if adF 4 v w = false then (val0, 2) else if v.k = 0 ∨ w.k = 0 then (val0, 0) else if 40 < (v.t ++ w.t).length then (val0, 1) else (tV (v.t ++ w.t), 0)
theorem strB_app2 (l r : Byt) : strB l ++ strB r = strB (l ++ r) := by
  unfold strB
  apply ByteArray.ext
  simp
set_option maxRecDepth 10000 in
set_option maxHeartbeats 2000000 in
theorem join_fn (v w : Val) (hv : chk v = 0) (hw : chk w = 0) : FnD Tryz.prog 327 [.agg (.es (eVal v)), .agg (.es (eVal w))] (rVE (jnF v w)) := by
  refine fn_intro (T := tab) tOk Tryz.func327 rfl (by kernel_rfl) (by simp [Tryz.ntmps327]) ?_
  intro X hX
  have hnt : X.nt = 35 := hX
  clear hX
  have h1 := askedK_fn 4 v w
  have lv := (chk_cases hv).2.2.1
  have lw := (chk_cases hw).2.2.1
  have sv : (strB v.t).size = v.t.length := strB_size _
  have sw : (strB w.t).size = w.t.length := strB_size _
  unfold jnF
  repeat' first | refine zzs ?_ | refine zzr hnt rfl ?_ ?_ | refine zzd hnt rfl ?_ ?_ | refine zzb ?_ | refine zzk ?_
  · exact zzt
  repeat' first | refine zzs ?_ | refine zzb ?_ | refine zzk ?_
  refine tr_region (zzx hnt rfl ?_ (call rfl rfl rfl rfl rfl rfl rfl hnt (h1) (zzx hnt rfl ?_ (Lex.nil _)))) ?_
  · exact zzt
  · exact zzt
  repeat' first | refine zzs ?_ | refine zzb ?_ | refine zzk ?_
  refine tr_cond rfl (fun hc => ?_) (fun hc => ?_)
  · have hc : (!adF 4 v w) = true := hc
    rw [if_pos (by simpa using hc)]
    repeat' first | refine zzs ?_ | refine zzr hnt rfl ?_ ?_ | refine zzd hnt rfl ?_ ?_ | refine zzb ?_ | refine zzk ?_
    · exact zzt
    exact tr_ret ⟨.inr rfl, _, _, rfl, zzp, rfl⟩
  have hc : (!adF 4 v w) = false := hc
  rw [if_neg (by simpa using hc)]
  repeat' first | refine zzs ?_ | refine zzr hnt rfl ?_ ?_ | refine zzd hnt rfl ?_ ?_ | refine zzb ?_ | refine zzk ?_
  · exact zzt
  rw [eVal0, eVal0, nul2]
  repeat' first | refine zzs ?_ | refine zzb ?_ | refine zzk ?_
  refine tr_cond rfl (fun hc => ?_) (fun hc => ?_)
  · have hc := of_decide_eq_true hc
    rw [if_pos hc]
    repeat' first | refine zzs ?_ | refine zzr hnt rfl ?_ ?_ | refine zzd hnt rfl ?_ ?_ | refine zzb ?_ | refine zzk ?_
    · exact zzt
    exact tr_ret ⟨.inr rfl, _, _, rfl, zzp, rfl⟩
  have hc := of_decide_eq_false hc
  rw [if_neg hc]
  repeat' first | refine zzs ?_ | refine zzr hnt rfl ?_ ?_ | refine zzd hnt rfl ?_ ?_ | refine zzb ?_ | refine zzk ?_
  · exact zzt
  rw [eVal3, eVal3, sv, sw]
  repeat' first | refine zzs ?_ | refine zzb ?_ | refine zzk ?_
  refine tr_cond rfl (fun hc => ?_) (fun hc => ?_)
  · simp only [zz1, zz2, zz3, zz4, zz5, zz6, zz7, zz8] at hc
    rw [wrap64_id (by omega) (by omega)] at hc
    rw [List.length_append, if_pos (by omega)]
    repeat' first | refine zzs ?_ | refine zzr hnt rfl ?_ ?_ | refine zzd hnt rfl ?_ ?_ | refine zzb ?_ | refine zzk ?_
    · exact zzt
    exact tr_ret ⟨.inr rfl, _, _, rfl, zzp, rfl⟩
  simp only [zz1, zz2, zz3, zz4, zz5, zz6, zz7, zz8] at hc
  rw [wrap64_id (by omega) (by omega)] at hc
  rw [List.length_append, if_neg (by omega)]
  repeat' first | refine zzs ?_ | refine zzb ?_ | refine zzk ?_
  first | refine zzr hnt rfl ?_ ?_ | refine zzd hnt rfl ?_ ?_
  · (dsimp only [AllP]; (repeat' first | exact trivial | assumption | exact Nat.le_of_ble_eq_true rfl | apply And.intro | exact eCells_len1 _ _ ‹_› | exact eCells_isByte _ _ ‹_› | (intro hh_; have hg_ := hh_; (try simp only [condT_ff, condF_tt, notE_t, notE_f, Bool.and_eq_true, ne_eq, decide_eq_true_eq, decide_eq_false_iff_not] at hg_)) | intro _ | exact rfl | omega))
    rw [eVal3, eVal3, sv, sw]
    simp only [maxLen]
    omega
  rw [eVal3, eVal3, strB_app2]
  exact tr_ret ⟨.inr rfl, _, _, rfl, zzp, rfl⟩
theorem bq3 (A B C D P : Prop) [Decidable A] [Decidable B] [Decidable C] [Decidable D] [Decidable P] : (bif (bif (!bif decide A then decide B else false) then (!bif decide C then decide D else false) else false) then decide P else false) = decide (¬ (A ∧ B) ∧ ¬ (C ∧ D) ∧ P) := by
  by_cases h1 : A <;> by_cases h2 : B <;> by_cases h3 : C <;> by_cases h4 : D <;> by_cases h5 : P <;> simp [h1, h2, h3, h4, h5]
def rkF (op : Int) (v w : Val) : Val × Int := if adF 2 v w = false then (val0, 2) else if v.k = 0 ∨ w.k = 0 then (val0, 0) else rkN op v.i w.i
set_option maxRecDepth 10000 in
set_option maxHeartbeats 2000000 in
theorem reckon_fn (op : Int) (v w : Val) (h5 : 5 ≤ op) (h8 : op ≤ 8) (hv : fitI v.i) (hw : fitI w.i) : FnD Tryz.prog 328 [.one (.e (eI op)), .agg (.es (eVal v)), .agg (.es (eVal w))] (rVE (rkF op v w)) := by
  refine fn_intro (T := tab) tOk Tryz.func328 rfl (by kernel_rfl) (by simp [Tryz.ntmps328]) ?_
  intro X hX
  have hnt : X.nt = 118 := hX
  clear hX
  have h1 := askedK_fn 2 v w
  unfold rkF
  repeat' first | refine zzs ?_ | refine zzr hnt rfl ?_ ?_ | refine zzd hnt rfl ?_ ?_ | refine zzb ?_ | refine zzk ?_
  · exact zzt
  repeat' first | refine zzs ?_ | refine zzb ?_ | refine zzk ?_
  refine tr_region (zzx hnt rfl ?_ (call rfl rfl rfl rfl rfl rfl rfl hnt (h1) (zzx hnt rfl ?_ (Lex.nil _)))) ?_
  · exact zzt
  · exact zzt
  repeat' first | refine zzs ?_ | refine zzb ?_ | refine zzk ?_
  refine tr_cond rfl (fun hc => ?_) (fun hc => ?_)
  · have hc : (!adF 2 v w) = true := hc
    rw [if_pos (by simpa using hc)]
    repeat' first | refine zzs ?_ | refine zzr hnt rfl ?_ ?_ | refine zzd hnt rfl ?_ ?_ | refine zzb ?_ | refine zzk ?_
    · exact zzt
    exact tr_ret ⟨.inr rfl, _, _, rfl, zzp, rfl⟩
  have hc : (!adF 2 v w) = false := hc
  rw [if_neg (by simpa using hc)]
  repeat' first | refine zzs ?_ | refine zzr hnt rfl ?_ ?_ | refine zzd hnt rfl ?_ ?_ | refine zzb ?_ | refine zzk ?_
  · exact zzt
  rw [eVal0, eVal0, nul2]
  repeat' first | refine zzs ?_ | refine zzb ?_ | refine zzk ?_
  refine tr_cond rfl (fun hc => ?_) (fun hc => ?_)
  · have hc := of_decide_eq_true hc
    rw [if_pos hc]
    repeat' first | refine zzs ?_ | refine zzr hnt rfl ?_ ?_ | refine zzd hnt rfl ?_ ?_ | refine zzb ?_ | refine zzk ?_
    · exact zzt
    exact tr_ret ⟨.inr rfl, _, _, rfl, zzp, rfl⟩
  have hc := of_decide_eq_false hc
  rw [if_neg hc]
  repeat' first | refine zzs ?_ | refine zzb ?_ | refine zzk ?_
  first | refine zzr hnt rfl ?_ ?_ | refine zzd hnt rfl ?_ ?_
  · exact zzt
  rw [eVal1, eVal1]
  generalize v.i = a at *
  generalize w.i = b at *
  repeat' first | refine zzs ?_ | refine zzb ?_ | refine zzk ?_
  first | refine zzr hnt rfl ?_ ?_ | refine zzd hnt rfl ?_ ?_
  · exact zzt
  rcases (by omega : op = 5 ∨ op = 6 ∨ op = 7 ∨ op = 8) with rfl | rfl | rfl | rfl
  · have hF : rkN 5 a b = if fitI (a + b) then (nV (a + b), 0) else (val0, 6) := rfl
    rw [hF]
    repeat' first | refine zzs ?_ | refine zzb ?_ | refine zzk ?_
    first | refine zzr hnt rfl ?_ ?_ | refine zzd hnt rfl ?_ ?_
    · exact zzt
    repeat' first | refine zzs ?_ | refine zzb ?_ | refine zzk ?_
    refine tr_cond rfl (fun hc => ?_) (fun hc => ?_)
    rotate_left
    · exact absurd hc (by decide)
    repeat' first | refine zzs ?_ | refine zzr hnt rfl ?_ ?_ | refine zzd hnt rfl ?_ ?_ | refine zzb ?_ | refine zzk ?_
    · exact zzt
    · exact zzt
    repeat' first | refine zzs ?_ | refine zzb ?_ | refine zzk ?_
    refine tr_cond rfl (fun hc => ?_) (fun hc => ?_)
    · have hc := of_decide_eq_true ((add_ok hv hw).symm.trans hc)
      rw [if_pos hc, wr_id hc]
      repeat' first | refine zzs ?_ | refine zzb ?_ | refine zzk ?_
      refine tr_region (zzx hnt rfl ?_ (call rfl rfl rfl rfl rfl rfl rfl hnt (number_fn _) (zzx hnt rfl ?_ (Lex.nil _)))) ?_
      · exact zzt
      · exact zzt
      exact tr_ret ⟨.inr rfl, _, _, rfl, zzp, rfl⟩
    have hc := of_decide_eq_false ((add_ok hv hw).symm.trans hc)
    rw [if_neg hc]
    repeat' first | refine zzs ?_ | refine zzr hnt rfl ?_ ?_ | refine zzd hnt rfl ?_ ?_ | refine zzb ?_ | refine zzk ?_
    · exact zzt
    exact tr_ret ⟨.inr rfl, _, _, rfl, zzp, rfl⟩
  · have hF : rkN 6 a b = if fitI (a - b) then (nV (a - b), 0) else (val0, 6) := rfl
    rw [hF]
    repeat' first | refine zzs ?_ | refine zzb ?_ | refine zzk ?_
    first | refine zzr hnt rfl ?_ ?_ | refine zzd hnt rfl ?_ ?_
    · exact zzt
    repeat' first | refine zzs ?_ | refine zzb ?_ | refine zzk ?_
    refine tr_cond rfl (fun hc => ?_) (fun hc => ?_)
    · exact absurd hc (by decide)
    repeat' first | refine zzs ?_ | refine zzb ?_ | refine zzk ?_
    first | refine zzr hnt rfl ?_ ?_ | refine zzd hnt rfl ?_ ?_
    · exact zzt
    repeat' first | refine zzs ?_ | refine zzb ?_ | refine zzk ?_
    refine tr_cond rfl (fun hc => ?_) (fun hc => ?_)
    rotate_left
    · exact absurd hc (by decide)
    repeat' first | refine zzs ?_ | refine zzr hnt rfl ?_ ?_ | refine zzd hnt rfl ?_ ?_ | refine zzb ?_ | refine zzk ?_
    · exact zzt
    · exact zzt
    repeat' first | refine zzs ?_ | refine zzb ?_ | refine zzk ?_
    refine tr_cond rfl (fun hc => ?_) (fun hc => ?_)
    · have hc := of_decide_eq_true ((sub_ok hv hw).symm.trans hc)
      rw [if_pos hc, wr_id hc]
      repeat' first | refine zzs ?_ | refine zzb ?_ | refine zzk ?_
      refine tr_region (zzx hnt rfl ?_ (call rfl rfl rfl rfl rfl rfl rfl hnt (number_fn _) (zzx hnt rfl ?_ (Lex.nil _)))) ?_
      · exact zzt
      · exact zzt
      exact tr_ret ⟨.inr rfl, _, _, rfl, zzp, rfl⟩
    have hc := of_decide_eq_false ((sub_ok hv hw).symm.trans hc)
    rw [if_neg hc]
    repeat' first | refine zzs ?_ | refine zzr hnt rfl ?_ ?_ | refine zzd hnt rfl ?_ ?_ | refine zzb ?_ | refine zzk ?_
    · exact zzt
    exact tr_ret ⟨.inr rfl, _, _, rfl, zzp, rfl⟩
  · have hF : rkN 7 a b = if fitI (a * b) then (nV (a * b), 0) else (val0, 6) := rfl
    rw [hF]
    repeat' first | refine zzs ?_ | refine zzb ?_ | refine zzk ?_
    first | refine zzr hnt rfl ?_ ?_ | refine zzd hnt rfl ?_ ?_
    · exact zzt
    repeat' first | refine zzs ?_ | refine zzb ?_ | refine zzk ?_
    refine tr_cond rfl (fun hc => ?_) (fun hc => ?_)
    · exact absurd hc (by decide)
    repeat' first | refine zzs ?_ | refine zzb ?_ | refine zzk ?_
    first | refine zzr hnt rfl ?_ ?_ | refine zzd hnt rfl ?_ ?_
    · exact zzt
    repeat' first | refine zzs ?_ | refine zzb ?_ | refine zzk ?_
    refine tr_cond rfl (fun hc => ?_) (fun hc => ?_)
    · exact absurd hc (by decide)
    repeat' first | refine zzs ?_ | refine zzb ?_ | refine zzk ?_
    first | refine zzr hnt rfl ?_ ?_ | refine zzd hnt rfl ?_ ?_
    · exact zzt
    repeat' first | refine zzs ?_ | refine zzb ?_ | refine zzk ?_
    refine tr_cond rfl (fun hc => ?_) (fun hc => ?_)
    rotate_left
    · exact absurd hc (by decide)
    repeat' first | refine zzs ?_ | refine zzb ?_ | refine zzk ?_
    first | refine zzr hnt rfl ?_ ?_ | refine zzd hnt rfl ?_ ?_
    · exact zzt
    repeat' first | refine zzs ?_ | refine zzb ?_ | refine zzk ?_
    refine tr_cond rfl (fun hc => ?_) (fun hc => ?_)
    · simp only [zz1, zz2, zz3, zz4, zz5, zz6, zz7, zz8] at hc
      have hm : a * b = 0 := by rcases hc with h | h <;> rw [h] <;> simp
      rw [hm, if_pos (by decide)]
      repeat' first | refine zzs ?_ | refine zzb ?_ | refine zzk ?_
      refine tr_region (zzx hnt rfl ?_ (call rfl rfl rfl rfl rfl rfl rfl hnt (number_fn _) (zzx hnt rfl ?_ (Lex.nil _)))) ?_
      · exact zzt
      · exact zzt
      exact tr_ret ⟨.inr rfl, _, _, rfl, zzp, rfl⟩
    simp only [zz1, zz2, zz3, zz4, zz5, zz6, zz7, zz8] at hc
    have ha0 : a ≠ 0 := fun e => hc.1 e
    have hb0 : b ≠ 0 := fun e => hc.2 e
    repeat' first | refine zzs ?_ | refine zzb ?_ | refine zzk ?_
    first | refine zzr hnt rfl ?_ ?_ | refine zzd hnt rfl ?_ ?_
    · exact zzt
    repeat' first | refine zzs ?_ | refine zzb ?_ | refine zzk ?_
    first | refine zzr hnt rfl ?_ ?_ | refine zzd hnt rfl ?_ ?_
    · exact zza
    have hx : (bif (bif (!bif decide (a = -1) then decide (b = -9223372036854775808) else false) then (!bif decide (b = -1) then decide (a = -9223372036854775808) else false) else false) then decide (IntKind.i64.wrap ((IntKind.i64.wrap (a * b)).tdiv b) = a) else false) = decide (fitI (a * b)) := by
      rw [bq3]
      exact decide_eq_decide.2 (mul_ok hv hw ha0 hb0)
    repeat' first | refine zzs ?_ | refine zzb ?_ | refine zzk ?_
    refine tr_cond rfl (fun hc => ?_) (fun hc => ?_)
    · have hc2 := of_decide_eq_true (hx.symm.trans hc)
      rw [if_pos hc2, wr_id hc2]
      repeat' first | refine zzs ?_ | refine zzb ?_ | refine zzk ?_
      refine tr_region (zzx hnt rfl ?_ (call rfl rfl rfl rfl rfl rfl rfl hnt (number_fn _) (zzx hnt rfl ?_ (Lex.nil _)))) ?_
      · exact zzt
      · exact zzt
      exact tr_ret ⟨.inr rfl, _, _, rfl, zzp, rfl⟩
    have hc2 := of_decide_eq_false (hx.symm.trans hc)
    rw [if_neg hc2]
    repeat' first | refine zzs ?_ | refine zzr hnt rfl ?_ ?_ | refine zzd hnt rfl ?_ ?_ | refine zzb ?_ | refine zzk ?_
    · exact zzt
    exact tr_ret ⟨.inr rfl, _, _, rfl, zzp, rfl⟩
  · have hF : rkN 8 a b = if b = 0 then (val0, 7) else if fitI (a.tdiv b) then (nV (a.tdiv b), 0) else (val0, 6) := rfl
    rw [hF]
    repeat' first | refine zzs ?_ | refine zzb ?_ | refine zzk ?_
    first | refine zzr hnt rfl ?_ ?_ | refine zzd hnt rfl ?_ ?_
    · exact zzt
    repeat' first | refine zzs ?_ | refine zzb ?_ | refine zzk ?_
    refine tr_cond rfl (fun hc => ?_) (fun hc => ?_)
    · exact absurd hc (by decide)
    repeat' first | refine zzs ?_ | refine zzb ?_ | refine zzk ?_
    first | refine zzr hnt rfl ?_ ?_ | refine zzd hnt rfl ?_ ?_
    · exact zzt
    repeat' first | refine zzs ?_ | refine zzb ?_ | refine zzk ?_
    refine tr_cond rfl (fun hc => ?_) (fun hc => ?_)
    · exact absurd hc (by decide)
    repeat' first | refine zzs ?_ | refine zzb ?_ | refine zzk ?_
    first | refine zzr hnt rfl ?_ ?_ | refine zzd hnt rfl ?_ ?_
    · exact zzt
    repeat' first | refine zzs ?_ | refine zzb ?_ | refine zzk ?_
    refine tr_cond rfl (fun hc => ?_) (fun hc => ?_)
    · exact absurd hc (by decide)
    repeat' first | refine zzs ?_ | refine zzb ?_ | refine zzk ?_
    first | refine zzr hnt rfl ?_ ?_ | refine zzd hnt rfl ?_ ?_
    · exact zzt
    repeat' first | refine zzs ?_ | refine zzb ?_ | refine zzk ?_
    refine tr_cond rfl (fun hc => ?_) (fun hc => ?_)
    · simp only [zz1, zz2, zz3, zz4, zz5, zz6, zz7, zz8] at hc
      rw [if_pos hc]
      repeat' first | refine zzs ?_ | refine zzr hnt rfl ?_ ?_ | refine zzd hnt rfl ?_ ?_ | refine zzb ?_ | refine zzk ?_
      · exact zzt
      exact tr_ret ⟨.inr rfl, _, _, rfl, zzp, rfl⟩
    simp only [zz1, zz2, zz3, zz4, zz5, zz6, zz7, zz8] at hc
    rw [if_neg hc]
    repeat' first | refine zzs ?_ | refine zzb ?_ | refine zzk ?_
    first | refine zzr hnt rfl ?_ ?_ | refine zzd hnt rfl ?_ ?_
    · exact zzt
    have hx : (!bif decide (a = -9223372036854775808) then decide (b = -1) else false) = decide (fitI (a.tdiv b)) := by
      rw [Bool.eq_iff_iff, decide_eq_true_eq, ← div_ok hv hw hc]
      by_cases c1 : a = -9223372036854775808 <;> by_cases c2 : b = -1 <;> simp [c1, c2]
    repeat' first | refine zzs ?_ | refine zzb ?_ | refine zzk ?_
    refine tr_cond rfl (fun hc => ?_) (fun hc => ?_)
    · have hc2 := of_decide_eq_true (hx.symm.trans hc)
      rw [if_pos hc2]
      repeat' first | refine zzs ?_ | refine zzb ?_ | refine zzk ?_
      refine tr_region (zzx hnt rfl ?_ (call rfl rfl rfl rfl rfl rfl rfl hnt (number_fn _) (zzx hnt rfl ?_ (Lex.nil _)))) ?_
      · exact zza
      · exact zza
      rw [wr_id hc2]
      exact tr_ret ⟨.inr rfl, _, _, rfl, zzp, rfl⟩
    have hc2 := of_decide_eq_false (hx.symm.trans hc)
    rw [if_neg hc2]
    repeat' first | refine zzs ?_ | refine zzr hnt rfl ?_ ?_ | refine zzd hnt rfl ?_ ?_ | refine zzb ?_ | refine zzk ?_
    · exact zzt
    exact tr_ret ⟨.inr rfl, _, _, rfl, zzp, rfl⟩
def oneF (op : Int) (v : Val) : Val × Int :=
  if op = 17 then (bV (decide (v.k = 0)), 0)
  else if v.k = 0 then (val0, 0)
  else if v.k ≠ (if op = 4 then 1 else if op = 18 then 4 else 2) then (val0, 2)
  else if op = 4 then (⟨1, 1 - v.i, 0, []⟩, 0)
  else if op = 18 then (nV (rcF v.t), 0)
  else if v.i = -9223372036854775808 then (val0, 6)
  else (nV (-v.i), 0)
set_option maxRecDepth 10000 in
set_option maxHeartbeats 2000000 in
theorem one_fn (op : Int) (v : Val) (hv : chk v = 0) (hi : fitI v.i) : FnD Tryz.prog 321 [.one (.e (eI op)), .agg (.es (eVal v))] (rVE (oneF op v)) := by
  refine fn_intro (T := tab) tOk Tryz.func321 rfl (by kernel_rfl) (by simp [Tryz.ntmps321]) ?_
  intro X hX
  have hnt : X.nt = 49 := hX
  clear hX
  by_cases o17 : op = 17
  · subst o17
    have hF : oneF 17 v = (bV (decide (v.k = 0)), 0) := rfl
    rw [hF]
    repeat' first | refine zzs ?_ | refine zzb ?_ | refine zzk ?_
    first | refine zzr hnt rfl ?_ ?_ | refine zzd hnt rfl ?_ ?_
    · exact zzt
    repeat' first | refine zzs ?_ | refine zzb ?_ | refine zzk ?_
    first | refine zzr hnt rfl ?_ ?_ | refine zzd hnt rfl ?_ ?_
    · exact zzt
    repeat' first | refine zzs ?_ | refine zzb ?_ | refine zzk ?_
    refine tr_cond rfl (fun hc => ?_) (fun hc => ?_)
    rotate_left
    · exact absurd hc (by decide)
    repeat' first | refine zzs ?_ | refine zzb ?_ | refine zzk ?_
    first | refine zzr hnt rfl ?_ ?_ | refine zzd hnt rfl ?_ ?_
    · exact zzt
    repeat' first | refine zzs ?_ | refine zzb ?_ | refine zzk ?_
    refine tr_cond rfl (fun hc => ?_) (fun hc => ?_)
    · simp only [zz1, zz2, zz3, zz4, zz5, zz6, zz7, zz8] at hc
      (try simp only [eVal0] at hc)
      (try simp only [zz1, zz2, zz3, zz4, zz5, zz6, zz7, zz8] at hc)
      rw [decide_eq_true hc]
      repeat' first | refine zzs ?_ | refine zzb ?_ | refine zzk ?_
      refine tr_region (zzx hnt rfl ?_ (call rfl rfl rfl rfl rfl rfl rfl hnt (truth_fn _) (zzx hnt rfl ?_ (Lex.nil _)))) ?_
      · exact zzt
      · exact zzt
      exact tr_ret ⟨.inr rfl, _, _, rfl, zzp, rfl⟩
    simp only [zz1, zz2, zz3, zz4, zz5, zz6, zz7, zz8] at hc
    (try simp only [eVal0] at hc)
    (try simp only [zz1, zz2, zz3, zz4, zz5, zz6, zz7, zz8] at hc)
    rw [decide_eq_false hc]
    repeat' first | refine zzs ?_ | refine zzb ?_ | refine zzk ?_
    refine tr_region (zzx hnt rfl ?_ (call rfl rfl rfl rfl rfl rfl rfl hnt (truth_fn _) (zzx hnt rfl ?_ (Lex.nil _)))) ?_
    · exact zzt
    · exact zzt
    exact tr_ret ⟨.inr rfl, _, _, rfl, zzp, rfl⟩
  by_cases o4 : op = 4
  · subst o4
    have hF : oneF 4 v = if v.k = 0 then (val0, 0) else if v.k ≠ 1 then (val0, 2) else (⟨1, 1 - v.i, 0, []⟩, 0) := rfl
    rw [hF]
    repeat' first | refine zzs ?_ | refine zzb ?_ | refine zzk ?_
    first | refine zzr hnt rfl ?_ ?_ | refine zzd hnt rfl ?_ ?_
    · exact zzt
    repeat' first | refine zzs ?_ | refine zzb ?_ | refine zzk ?_
    first | refine zzr hnt rfl ?_ ?_ | refine zzd hnt rfl ?_ ?_
    · exact zzt
    repeat' first | refine zzs ?_ | refine zzb ?_ | refine zzk ?_
    refine tr_cond rfl (fun hc => ?_) (fun hc => ?_)
    · exact absurd hc (by decide)
    repeat' first | refine zzs ?_ | refine zzr hnt rfl ?_ ?_ | refine zzd hnt rfl ?_ ?_ | refine zzb ?_ | refine zzk ?_
    · exact zzt
    · exact zzt
    · exact zzt
    repeat' first | refine zzs ?_ | refine zzb ?_ | refine zzk ?_
    refine tr_cond rfl (fun hc => ?_) (fun hc => ?_)
    rotate_left
    · exact absurd hc (by decide)
    repeat' first | refine zzs ?_ | refine zzb ?_ | refine zzk ?_
    first | refine zzr hnt rfl ?_ ?_ | refine zzd hnt rfl ?_ ?_
    · exact zzt
    repeat' first | refine zzs ?_ | refine zzb ?_ | refine zzk ?_
    first | refine zzr hnt rfl ?_ ?_ | refine zzd hnt rfl ?_ ?_
    · exact zzt
    repeat' first | refine zzs ?_ | refine zzb ?_ | refine zzk ?_
    refine tr_cond rfl (fun hc => ?_) (fun hc => ?_)
    · simp only [zz1, zz2, zz3, zz4, zz5, zz6, zz7, zz8] at hc
      (try simp only [eVal0] at hc)
      (try simp only [zz1, zz2, zz3, zz4, zz5, zz6, zz7, zz8] at hc)
      rw [if_pos hc, chk_null hv hc]
      repeat' first | refine zzs ?_ | refine zzr hnt rfl ?_ ?_ | refine zzd hnt rfl ?_ ?_ | refine zzb ?_ | refine zzk ?_
      · exact zzt
      exact tr_ret ⟨.inr rfl, _, _, rfl, zzp, rfl⟩
    simp only [zz1, zz2, zz3, zz4, zz5, zz6, zz7, zz8] at hc
    (try simp only [eVal0] at hc)
    (try simp only [zz1, zz2, zz3, zz4, zz5, zz6, zz7, zz8] at hc)
    rw [if_neg hc]
    repeat' first | refine zzs ?_ | refine zzb ?_ | refine zzk ?_
    first | refine zzr hnt rfl ?_ ?_ | refine zzd hnt rfl ?_ ?_
    · exact zzt
    repeat' first | refine zzs ?_ | refine zzb ?_ | refine zzk ?_
    refine tr_cond rfl (fun hc => ?_) (fun hc => ?_)
    · simp only [zz1, zz2, zz3, zz4, zz5, zz6, zz7, zz8] at hc
      (try simp only [eVal0] at hc)
      (try simp only [zz1, zz2, zz3, zz4, zz5, zz6, zz7, zz8] at hc)
      rw [if_pos (c := v.k ≠ _) hc]
      repeat' first | refine zzs ?_ | refine zzr hnt rfl ?_ ?_ | refine zzd hnt rfl ?_ ?_ | refine zzb ?_ | refine zzk ?_
      · exact zzt
      exact tr_ret ⟨.inr rfl, _, _, rfl, zzp, rfl⟩
    simp only [zz1, zz2, zz3, zz4, zz5, zz6, zz7, zz8] at hc
    (try simp only [eVal0] at hc)
    (try simp only [zz1, zz2, zz3, zz4, zz5, zz6, zz7, zz8] at hc)
    have hk : v.k = 1 := by omega
    rw [if_neg (c := v.k ≠ _) (not_not_intro hk)]
    repeat' first | refine zzs ?_ | refine zzr hnt rfl ?_ ?_ | refine zzd hnt rfl ?_ ?_ | refine zzb ?_ | refine zzk ?_
    · exact zzt
    · exact zzt
    repeat' first | refine zzs ?_ | refine zzb ?_ | refine zzk ?_
    refine tr_cond rfl (fun hc => ?_) (fun hc => ?_)
    rotate_left
    · exact absurd hc (by decide)
    repeat' first | refine zzs ?_ | refine zzb ?_ | refine zzk ?_
    first | refine zzr hnt rfl ?_ ?_ | refine zzd hnt rfl ?_ ?_
    · exact zza
    rw [eVal1]
    obtain h := (chk_cases hv).2.2.2.2.2.2 hk
    rw [wrap64_id (by omega) (by omega)]
    exact tr_ret ⟨.inr rfl, _, _, rfl, zzp, rfl⟩
  by_cases o18 : op = 18
  · subst o18
    have hF : oneF 18 v = if v.k = 0 then (val0, 0) else if v.k ≠ 4 then (val0, 2) else (nV (rcF v.t), 0) := rfl
    rw [hF]
    repeat' first | refine zzs ?_ | refine zzb ?_ | refine zzk ?_
    first | refine zzr hnt rfl ?_ ?_ | refine zzd hnt rfl ?_ ?_
    · exact zzt
    repeat' first | refine zzs ?_ | refine zzb ?_ | refine zzk ?_
    first | refine zzr hnt rfl ?_ ?_ | refine zzd hnt rfl ?_ ?_
    · exact zzt
    repeat' first | refine zzs ?_ | refine zzb ?_ | refine zzk ?_
    refine tr_cond rfl (fun hc => ?_) (fun hc => ?_)
    · exact absurd hc (by decide)
    repeat' first | refine zzs ?_ | refine zzr hnt rfl ?_ ?_ | refine zzd hnt rfl ?_ ?_ | refine zzb ?_ | refine zzk ?_
    · exact zzt
    · exact zzt
    · exact zzt
    repeat' first | refine zzs ?_ | refine zzb ?_ | refine zzk ?_
    refine tr_cond rfl (fun hc => ?_) (fun hc => ?_)
    · exact absurd hc (by decide)
    repeat' first | refine zzs ?_ | refine zzb ?_ | refine zzk ?_
    first | refine zzr hnt rfl ?_ ?_ | refine zzd hnt rfl ?_ ?_
    · exact zzt
    repeat' first | refine zzs ?_ | refine zzb ?_ | refine zzk ?_
    refine tr_cond rfl (fun hc => ?_) (fun hc => ?_)
    rotate_left
    · exact absurd hc (by decide)
    repeat' first | refine zzs ?_ | refine zzb ?_ | refine zzk ?_
    first | refine zzr hnt rfl ?_ ?_ | refine zzd hnt rfl ?_ ?_
    · exact zzt
    repeat' first | refine zzs ?_ | refine zzb ?_ | refine zzk ?_
    first | refine zzr hnt rfl ?_ ?_ | refine zzd hnt rfl ?_ ?_
    · exact zzt
    repeat' first | refine zzs ?_ | refine zzb ?_ | refine zzk ?_
    refine tr_cond rfl (fun hc => ?_) (fun hc => ?_)
    · simp only [zz1, zz2, zz3, zz4, zz5, zz6, zz7, zz8] at hc
      (try simp only [eVal0] at hc)
      (try simp only [zz1, zz2, zz3, zz4, zz5, zz6, zz7, zz8] at hc)
      rw [if_pos hc, chk_null hv hc]
      repeat' first | refine zzs ?_ | refine zzr hnt rfl ?_ ?_ | refine zzd hnt rfl ?_ ?_ | refine zzb ?_ | refine zzk ?_
      · exact zzt
      exact tr_ret ⟨.inr rfl, _, _, rfl, zzp, rfl⟩
    simp only [zz1, zz2, zz3, zz4, zz5, zz6, zz7, zz8] at hc
    (try simp only [eVal0] at hc)
    (try simp only [zz1, zz2, zz3, zz4, zz5, zz6, zz7, zz8] at hc)
    rw [if_neg hc]
    repeat' first | refine zzs ?_ | refine zzb ?_ | refine zzk ?_
    first | refine zzr hnt rfl ?_ ?_ | refine zzd hnt rfl ?_ ?_
    · exact zzt
    repeat' first | refine zzs ?_ | refine zzb ?_ | refine zzk ?_
    refine tr_cond rfl (fun hc => ?_) (fun hc => ?_)
    · simp only [zz1, zz2, zz3, zz4, zz5, zz6, zz7, zz8] at hc
      (try simp only [eVal0] at hc)
      (try simp only [zz1, zz2, zz3, zz4, zz5, zz6, zz7, zz8] at hc)
      rw [if_pos (c := v.k ≠ _) hc]
      repeat' first | refine zzs ?_ | refine zzr hnt rfl ?_ ?_ | refine zzd hnt rfl ?_ ?_ | refine zzb ?_ | refine zzk ?_
      · exact zzt
      exact tr_ret ⟨.inr rfl, _, _, rfl, zzp, rfl⟩
    simp only [zz1, zz2, zz3, zz4, zz5, zz6, zz7, zz8] at hc
    (try simp only [eVal0] at hc)
    (try simp only [zz1, zz2, zz3, zz4, zz5, zz6, zz7, zz8] at hc)
    have hk : v.k = 4 := by omega
    rw [if_neg (c := v.k ≠ _) (not_not_intro hk)]
    have hrc := runeCount_fn v.t (by have := (chk_cases hv).2.2.1; omega)
    repeat' first | refine zzs ?_ | refine zzr hnt rfl ?_ ?_ | refine zzd hnt rfl ?_ ?_ | refine zzb ?_ | refine zzk ?_
    · exact zzt
    · exact zzt
    repeat' first | refine zzs ?_ | refine zzb ?_ | refine zzk ?_
    refine tr_cond rfl (fun hc => ?_) (fun hc => ?_)
    · exact absurd hc (by decide)
    repeat' first | refine zzs ?_ | refine zzb ?_ | refine zzk ?_
    first | refine zzr hnt rfl ?_ ?_ | refine zzd hnt rfl ?_ ?_
    · exact zzt
    repeat' first | refine zzs ?_ | refine zzb ?_ | refine zzk ?_
    refine tr_cond rfl (fun hc => ?_) (fun hc => ?_)
    rotate_left
    · exact absurd hc (by decide)
    repeat' first | refine zzs ?_ | refine zzb ?_ | refine zzk ?_
    refine tr_region (zzx hnt rfl ?_ (call rfl rfl rfl rfl rfl rfl rfl hnt (hrc) (zzx hnt rfl ?_ (call rfl rfl rfl rfl rfl rfl rfl hnt (number_fn _) (zzx hnt rfl ?_ (Lex.nil _)))))) ?_
    · exact zzt
    · exact zzt
    · exact zzt
    exact tr_ret ⟨.inr rfl, _, _, rfl, zzp, rfl⟩
  · have hF : oneF op v = if v.k = 0 then (val0, 0) else if v.k ≠ 2 then (val0, 2) else if v.i = -9223372036854775808 then (val0, 6) else (nV (-v.i), 0) := by
      unfold oneF
      rw [if_neg o17, if_neg o4, if_neg o18, if_neg o4, if_neg o18]
    rw [hF]
    repeat' first | refine zzs ?_ | refine zzb ?_ | refine zzk ?_
    first | refine zzr hnt rfl ?_ ?_ | refine zzd hnt rfl ?_ ?_
    · exact zzt
    repeat' first | refine zzs ?_ | refine zzb ?_ | refine zzk ?_
    first | refine zzr hnt rfl ?_ ?_ | refine zzd hnt rfl ?_ ?_
    · exact zzt
    repeat' first | refine zzs ?_ | refine zzb ?_ | refine zzk ?_
    refine tr_cond rfl (fun hc => ?_) (fun hc => ?_)
    · exact absurd (of_decide_eq_true hc) o17
    repeat' first | refine zzs ?_ | refine zzr hnt rfl ?_ ?_ | refine zzd hnt rfl ?_ ?_ | refine zzb ?_ | refine zzk ?_
    · exact zzt
    · exact zzt
    · exact zzt
    repeat' first | refine zzs ?_ | refine zzb ?_ | refine zzk ?_
    refine tr_cond rfl (fun hc => ?_) (fun hc => ?_)
    · exact absurd (of_decide_eq_true hc) o4
    repeat' first | refine zzs ?_ | refine zzb ?_ | refine zzk ?_
    first | refine zzr hnt rfl ?_ ?_ | refine zzd hnt rfl ?_ ?_
    · exact zzt
    repeat' first | refine zzs ?_ | refine zzb ?_ | refine zzk ?_
    refine tr_cond rfl (fun hc => ?_) (fun hc => ?_)
    · exact absurd (of_decide_eq_true hc) o18
    repeat' first | refine zzs ?_ | refine zzb ?_ | refine zzk ?_
    first | refine zzr hnt rfl ?_ ?_ | refine zzd hnt rfl ?_ ?_
    · exact zzt
    repeat' first | refine zzs ?_ | refine zzb ?_ | refine zzk ?_
    refine tr_cond rfl (fun hc => ?_) (fun hc => ?_)
    · simp only [zz1, zz2, zz3, zz4, zz5, zz6, zz7, zz8] at hc
      (try simp only [eVal0] at hc)
      (try simp only [zz1, zz2, zz3, zz4, zz5, zz6, zz7, zz8] at hc)
      rw [if_pos hc, chk_null hv hc]
      repeat' first | refine zzs ?_ | refine zzr hnt rfl ?_ ?_ | refine zzd hnt rfl ?_ ?_ | refine zzb ?_ | refine zzk ?_
      · exact zzt
      exact tr_ret ⟨.inr rfl, _, _, rfl, zzp, rfl⟩
    simp only [zz1, zz2, zz3, zz4, zz5, zz6, zz7, zz8] at hc
    (try simp only [eVal0] at hc)
    (try simp only [zz1, zz2, zz3, zz4, zz5, zz6, zz7, zz8] at hc)
    rw [if_neg hc]
    repeat' first | refine zzs ?_ | refine zzb ?_ | refine zzk ?_
    first | refine zzr hnt rfl ?_ ?_ | refine zzd hnt rfl ?_ ?_
    · exact zzt
    repeat' first | refine zzs ?_ | refine zzb ?_ | refine zzk ?_
    refine tr_cond rfl (fun hc => ?_) (fun hc => ?_)
    · simp only [zz1, zz2, zz3, zz4, zz5, zz6, zz7, zz8] at hc
      (try simp only [eVal0] at hc)
      (try simp only [zz1, zz2, zz3, zz4, zz5, zz6, zz7, zz8] at hc)
      rw [if_pos (c := v.k ≠ _) hc]
      repeat' first | refine zzs ?_ | refine zzr hnt rfl ?_ ?_ | refine zzd hnt rfl ?_ ?_ | refine zzb ?_ | refine zzk ?_
      · exact zzt
      exact tr_ret ⟨.inr rfl, _, _, rfl, zzp, rfl⟩
    simp only [zz1, zz2, zz3, zz4, zz5, zz6, zz7, zz8] at hc
    (try simp only [eVal0] at hc)
    (try simp only [zz1, zz2, zz3, zz4, zz5, zz6, zz7, zz8] at hc)
    have hk : v.k = 2 := by omega
    rw [if_neg (c := v.k ≠ _) (not_not_intro hk)]
    repeat' first | refine zzs ?_ | refine zzr hnt rfl ?_ ?_ | refine zzd hnt rfl ?_ ?_ | refine zzb ?_ | refine zzk ?_
    · exact zzt
    · exact zzt
    repeat' first | refine zzs ?_ | refine zzb ?_ | refine zzk ?_
    refine tr_cond rfl (fun hc => ?_) (fun hc => ?_)
    · exact absurd (of_decide_eq_true hc) o4
    repeat' first | refine zzs ?_ | refine zzb ?_ | refine zzk ?_
    first | refine zzr hnt rfl ?_ ?_ | refine zzd hnt rfl ?_ ?_
    · exact zzt
    repeat' first | refine zzs ?_ | refine zzb ?_ | refine zzk ?_
    refine tr_cond rfl (fun hc => ?_) (fun hc => ?_)
    · exact absurd (of_decide_eq_true hc) o18
    repeat' first | refine zzs ?_ | refine zzb ?_ | refine zzk ?_
    first | refine zzr hnt rfl ?_ ?_ | refine zzd hnt rfl ?_ ?_
    · exact zzt
    rw [eVal1]
    repeat' first | refine zzs ?_ | refine zzb ?_ | refine zzk ?_
    refine tr_cond rfl (fun hc => ?_) (fun hc => ?_)
    · simp only [zz1, zz2, zz3, zz4, zz5, zz6, zz7, zz8] at hc
      rw [if_pos hc]
      repeat' first | refine zzs ?_ | refine zzr hnt rfl ?_ ?_ | refine zzd hnt rfl ?_ ?_ | refine zzb ?_ | refine zzk ?_
      · exact zzt
      exact tr_ret ⟨.inr rfl, _, _, rfl, zzp, rfl⟩
    simp only [zz1, zz2, zz3, zz4, zz5, zz6, zz7, zz8] at hc
    rw [if_neg hc]
    repeat' first | refine zzs ?_ | refine zzb ?_ | refine zzk ?_
    refine tr_region (zzx hnt rfl ?_ (call rfl rfl rfl rfl rfl rfl rfl hnt (number_fn _) (zzx hnt rfl ?_ (Lex.nil _)))) ?_
    · exact zza
    · exact zza
    rw [eVal1, show IntKind.i64.wrap (0 - v.i) = -v.i by have := hi.1; have := hi.2; rw [wrap64_id (by omega) (by omega)]; omega]
    exact tr_ret ⟨.inr rfl, _, _, rfl, zzp, rfl⟩
def tw2F (op : Int) (v w : Val) : Val × Int :=
  if op = 15 ∨ op = 16 then lgF op v w else if op = 20 then (w, 0) else if op = 19 then jnF v w else if 5 ≤ op ∧ op ≤ 8 then rkF op v w else cpF op v w
set_option maxRecDepth 10000 in
set_option maxHeartbeats 2000000 in
theorem two_fn (op : Int) (v w : Val) (hv : chk v = 0) (hw : chk w = 0) (hi : fitI v.i) (hj : fitI w.i) (ho : (5 ≤ op ∧ op ≤ 16) ∨ op = 19 ∨ op = 20) : FnG Tryz.prog 325 gK [.one (.e (eI op)), .agg (.es (eVal v)), .agg (.es (eVal w))] (rVE (tw2F op v w)) := by
  refine fn_introG (T := tab) tOk Tryz.func325 rfl (by kernel_rfl) (by simp [Tryz.ntmps325]) ?_
  intro X hX
  have hnt : X.nt = 45 := hX
  clear hX
  by_cases o1 : op = 15 ∨ op = 16
  · have hF : tw2F op v w = lgF op v w := if_pos o1
    rw [hF]
    have h := logic_fn op v w hv hw
    generalize lgF op v w = A at *
    rcases o1 with rfl | rfl
    · repeat' first | refine zzs ?_ | refine zzr hnt rfl ?_ ?_ | refine zzd hnt rfl ?_ ?_ | refine zzb ?_ | refine zzk ?_
      · exact zzt
      · exact zzt
      · exact zzt
      repeat' first | refine zzs ?_ | refine zzb ?_ | refine zzk ?_
      refine tr_cond rfl (fun hc => ?_) (fun hc => ?_)
      rotate_left
      · exact absurd hc (by decide)
      repeat' first | refine zzs ?_ | refine zzb ?_ | refine zzk ?_
      repeat' first | refine zzs ?_ | refine zzb ?_ | refine zzk ?_
      refine tr_cond rfl (fun hc => ?_) (fun hc => ?_)
      rotate_left
      · exact absurd hc (by decide)
      repeat' first | refine zzs ?_ | refine zzb ?_ | refine zzk ?_
      refine tr_region (zzx hnt rfl ?_ (call rfl rfl rfl rfl rfl rfl rfl hnt (h) (zzx hnt rfl ?_ (Lex.nil _)))) ?_
      · exact zzt
      · exact zzt
      exact tr_ret ⟨.inr rfl, _, _, rfl, zzp, rfl⟩
    · repeat' first | refine zzs ?_ | refine zzr hnt rfl ?_ ?_ | refine zzd hnt rfl ?_ ?_ | refine zzb ?_ | refine zzk ?_
      · exact zzt
      · exact zzt
      · exact zzt
      repeat' first | refine zzs ?_ | refine zzb ?_ | refine zzk ?_
      refine tr_cond rfl (fun hc => ?_) (fun hc => ?_)
      · exact absurd hc (by decide)
      repeat' first | refine zzs ?_ | refine zzb ?_ | refine zzk ?_
      first | refine zzr hnt rfl ?_ ?_ | refine zzd hnt rfl ?_ ?_
      · exact zzt
      repeat' first | refine zzs ?_ | refine zzb ?_ | refine zzk ?_
      refine tr_cond rfl (fun hc => ?_) (fun hc => ?_)
      rotate_left
      · exact absurd hc (by decide)
      repeat' first | refine zzs ?_ | refine zzb ?_ | refine zzk ?_
      refine tr_region (zzx hnt rfl ?_ (call rfl rfl rfl rfl rfl rfl rfl hnt (h) (zzx hnt rfl ?_ (Lex.nil _)))) ?_
      · exact zzt
      · exact zzt
      exact tr_ret ⟨.inr rfl, _, _, rfl, zzp, rfl⟩
  have n15 : op ≠ 15 := fun e => o1 (.inl e)
  have n16 : op ≠ 16 := fun e => o1 (.inr e)
  repeat' first | refine zzs ?_ | refine zzr hnt rfl ?_ ?_ | refine zzd hnt rfl ?_ ?_ | refine zzb ?_ | refine zzk ?_
  · exact zzt
  · exact zzt
  · exact zzt
  repeat' first | refine zzs ?_ | refine zzb ?_ | refine zzk ?_
  refine tr_cond rfl (fun hc => ?_) (fun hc => ?_)
  · exact absurd (of_decide_eq_true hc) n15
  repeat' first | refine zzs ?_ | refine zzb ?_ | refine zzk ?_
  first | refine zzr hnt rfl ?_ ?_ | refine zzd hnt rfl ?_ ?_
  · exact zzt
  repeat' first | refine zzs ?_ | refine zzb ?_ | refine zzk ?_
  refine tr_cond rfl (fun hc => ?_) (fun hc => ?_)
  · exact absurd (of_decide_eq_true hc) n16
  repeat' first | refine zzs ?_ | refine zzb ?_ | refine zzk ?_
  first | refine zzr hnt rfl ?_ ?_ | refine zzd hnt rfl ?_ ?_
  · exact zzt
  by_cases o20 : op = 20
  · have hF : tw2F op v w = (w, 0) := by unfold tw2F; rw [if_neg o1, if_pos o20]
    rw [hF]
    subst o20
    repeat' first | refine zzs ?_ | refine zzb ?_ | refine zzk ?_
    refine tr_cond rfl (fun hc => ?_) (fun hc => ?_)
    rotate_left
    · exact absurd hc (by decide)
    repeat' first | refine zzs ?_ | refine zzr hnt rfl ?_ ?_ | refine zzd hnt rfl ?_ ?_ | refine zzb ?_ | refine zzk ?_
    · exact zzt
    exact tr_ret ⟨.inr rfl, _, _, rfl, zzp, rfl⟩
  repeat' first | refine zzs ?_ | refine zzb ?_ | refine zzk ?_
  refine tr_cond rfl (fun hc => ?_) (fun hc => ?_)
  · exact absurd (of_decide_eq_true hc) o20
  repeat' first | refine zzs ?_ | refine zzb ?_ | refine zzk ?_
  first | refine zzr hnt rfl ?_ ?_ | refine zzd hnt rfl ?_ ?_
  · exact zzt
  by_cases o19 : op = 19
  · have hF : tw2F op v w = jnF v w := by unfold tw2F; rw [if_neg o1, if_neg o20, if_pos o19]
    rw [hF]
    have h := join_fn v w hv hw
    generalize jnF v w = A at *
    subst o19
    repeat' first | refine zzs ?_ | refine zzb ?_ | refine zzk ?_
    refine tr_cond rfl (fun hc => ?_) (fun hc => ?_)
    rotate_left
    · exact absurd hc (by decide)
    repeat' first | refine zzs ?_ | refine zzb ?_ | refine zzk ?_
    refine tr_region (zzx hnt rfl ?_ (call rfl rfl rfl rfl rfl rfl rfl hnt (h) (zzx hnt rfl ?_ (Lex.nil _)))) ?_
    · exact zzt
    · exact zzt
    exact tr_ret ⟨.inr rfl, _, _, rfl, zzp, rfl⟩
  repeat' first | refine zzs ?_ | refine zzb ?_ | refine zzk ?_
  refine tr_cond rfl (fun hc => ?_) (fun hc => ?_)
  · exact absurd (of_decide_eq_true hc) o19
  by_cases o5 : 5 ≤ op ∧ op ≤ 8
  · have hF : tw2F op v w = rkF op v w := by unfold tw2F; rw [if_neg o1, if_neg o20, if_neg o19, if_pos o5]
    rw [hF]
    have h := reckon_fn op v w o5.1 o5.2 hi hj
    generalize rkF op v w = A at *
    rcases (by omega : op = 5 ∨ op = 6 ∨ op = 7 ∨ op = 8) with rfl | rfl | rfl | rfl
    · repeat' first | refine zzs ?_ | refine zzb ?_ | refine zzk ?_
      first | refine zzr hnt rfl ?_ ?_ | refine zzd hnt rfl ?_ ?_
      · exact zzt
      repeat' first | refine zzs ?_ | refine zzb ?_ | refine zzk ?_
      refine tr_cond rfl (fun hc => ?_) (fun hc => ?_)
      rotate_left
      · exact absurd hc (by decide)
      repeat' first | refine zzs ?_ | refine zzb ?_ | refine zzk ?_
      repeat' first | refine zzs ?_ | refine zzb ?_ | refine zzk ?_
      refine tr_cond rfl (fun hc => ?_) (fun hc => ?_)
      rotate_left
      · exact absurd hc (by decide)
      repeat' first | refine zzs ?_ | refine zzb ?_ | refine zzk ?_
      refine tr_region (zzx hnt rfl ?_ (call rfl rfl rfl rfl rfl rfl rfl hnt (h) (zzx hnt rfl ?_ (Lex.nil _)))) ?_
      · exact zzt
      · exact zzt
      exact tr_ret ⟨.inr rfl, _, _, rfl, zzp, rfl⟩
    · repeat' first | refine zzs ?_ | refine zzb ?_ | refine zzk ?_
      first | refine zzr hnt rfl ?_ ?_ | refine zzd hnt rfl ?_ ?_
      · exact zzt
      repeat' first | refine zzs ?_ | refine zzb ?_ | refine zzk ?_
      refine tr_cond rfl (fun hc => ?_) (fun hc => ?_)
      · exact absurd hc (by decide)
      repeat' first | refine zzs ?_ | refine zzb ?_ | refine zzk ?_
      first | refine zzr hnt rfl ?_ ?_ | refine zzd hnt rfl ?_ ?_
      · exact zzt
      repeat' first | refine zzs ?_ | refine zzb ?_ | refine zzk ?_
      refine tr_cond rfl (fun hc => ?_) (fun hc => ?_)
      rotate_left
      · exact absurd hc (by decide)
      repeat' first | refine zzs ?_ | refine zzb ?_ | refine zzk ?_
      repeat' first | refine zzs ?_ | refine zzb ?_ | refine zzk ?_
      refine tr_cond rfl (fun hc => ?_) (fun hc => ?_)
      rotate_left
      · exact absurd hc (by decide)
      repeat' first | refine zzs ?_ | refine zzb ?_ | refine zzk ?_
      refine tr_region (zzx hnt rfl ?_ (call rfl rfl rfl rfl rfl rfl rfl hnt (h) (zzx hnt rfl ?_ (Lex.nil _)))) ?_
      · exact zzt
      · exact zzt
      exact tr_ret ⟨.inr rfl, _, _, rfl, zzp, rfl⟩
    · repeat' first | refine zzs ?_ | refine zzb ?_ | refine zzk ?_
      first | refine zzr hnt rfl ?_ ?_ | refine zzd hnt rfl ?_ ?_
      · exact zzt
      repeat' first | refine zzs ?_ | refine zzb ?_ | refine zzk ?_
      refine tr_cond rfl (fun hc => ?_) (fun hc => ?_)
      · exact absurd hc (by decide)
      repeat' first | refine zzs ?_ | refine zzb ?_ | refine zzk ?_
      first | refine zzr hnt rfl ?_ ?_ | refine zzd hnt rfl ?_ ?_
      · exact zzt
      repeat' first | refine zzs ?_ | refine zzb ?_ | refine zzk ?_
      refine tr_cond rfl (fun hc => ?_) (fun hc => ?_)
      · exact absurd hc (by decide)
      repeat' first | refine zzs ?_ | refine zzb ?_ | refine zzk ?_
      first | refine zzr hnt rfl ?_ ?_ | refine zzd hnt rfl ?_ ?_
      · exact zzt
      repeat' first | refine zzs ?_ | refine zzb ?_ | refine zzk ?_
      refine tr_cond rfl (fun hc => ?_) (fun hc => ?_)
      rotate_left
      · exact absurd hc (by decide)
      repeat' first | refine zzs ?_ | refine zzb ?_ | refine zzk ?_
      repeat' first | refine zzs ?_ | refine zzb ?_ | refine zzk ?_
      refine tr_cond rfl (fun hc => ?_) (fun hc => ?_)
      rotate_left
      · exact absurd hc (by decide)
      repeat' first | refine zzs ?_ | refine zzb ?_ | refine zzk ?_
      refine tr_region (zzx hnt rfl ?_ (call rfl rfl rfl rfl rfl rfl rfl hnt (h) (zzx hnt rfl ?_ (Lex.nil _)))) ?_
      · exact zzt
      · exact zzt
      exact tr_ret ⟨.inr rfl, _, _, rfl, zzp, rfl⟩
    · repeat' first | refine zzs ?_ | refine zzb ?_ | refine zzk ?_
      first | refine zzr hnt rfl ?_ ?_ | refine zzd hnt rfl ?_ ?_
      · exact zzt
      repeat' first | refine zzs ?_ | refine zzb ?_ | refine zzk ?_
      refine tr_cond rfl (fun hc => ?_) (fun hc => ?_)
      · exact absurd hc (by decide)
      repeat' first | refine zzs ?_ | refine zzb ?_ | refine zzk ?_
      first | refine zzr hnt rfl ?_ ?_ | refine zzd hnt rfl ?_ ?_
      · exact zzt
      repeat' first | refine zzs ?_ | refine zzb ?_ | refine zzk ?_
      refine tr_cond rfl (fun hc => ?_) (fun hc => ?_)
      · exact absurd hc (by decide)
      repeat' first | refine zzs ?_ | refine zzb ?_ | refine zzk ?_
      first | refine zzr hnt rfl ?_ ?_ | refine zzd hnt rfl ?_ ?_
      · exact zzt
      repeat' first | refine zzs ?_ | refine zzb ?_ | refine zzk ?_
      refine tr_cond rfl (fun hc => ?_) (fun hc => ?_)
      · exact absurd hc (by decide)
      repeat' first | refine zzs ?_ | refine zzb ?_ | refine zzk ?_
      first | refine zzr hnt rfl ?_ ?_ | refine zzd hnt rfl ?_ ?_
      · exact zzt
      repeat' first | refine zzs ?_ | refine zzb ?_ | refine zzk ?_
      refine tr_cond rfl (fun hc => ?_) (fun hc => ?_)
      rotate_left
      · exact absurd hc (by decide)
      repeat' first | refine zzs ?_ | refine zzb ?_ | refine zzk ?_
      refine tr_region (zzx hnt rfl ?_ (call rfl rfl rfl rfl rfl rfl rfl hnt (h) (zzx hnt rfl ?_ (Lex.nil _)))) ?_
      · exact zzt
      · exact zzt
      exact tr_ret ⟨.inr rfl, _, _, rfl, zzp, rfl⟩
  · have hF : tw2F op v w = cpF op v w := by unfold tw2F; rw [if_neg o1, if_neg o20, if_neg o19, if_neg o5]
    rw [hF]
    have h := compare_fn op v w hv hw (by omega) (by omega)
    generalize cpF op v w = A at *
    repeat' first | refine zzs ?_ | refine zzb ?_ | refine zzk ?_
    first | refine zzr hnt rfl ?_ ?_ | refine zzd hnt rfl ?_ ?_
    · exact zzt
    repeat' first | refine zzs ?_ | refine zzb ?_ | refine zzk ?_
    refine tr_cond rfl (fun hc => ?_) (fun hc => ?_)
    · exact absurd (of_decide_eq_true hc) (by omega)
    repeat' first | refine zzs ?_ | refine zzb ?_ | refine zzk ?_
    first | refine zzr hnt rfl ?_ ?_ | refine zzd hnt rfl ?_ ?_
    · exact zzt
    repeat' first | refine zzs ?_ | refine zzb ?_ | refine zzk ?_
    refine tr_cond rfl (fun hc => ?_) (fun hc => ?_)
    · exact absurd (of_decide_eq_true hc) (by omega)
    repeat' first | refine zzs ?_ | refine zzb ?_ | refine zzk ?_
    first | refine zzr hnt rfl ?_ ?_ | refine zzd hnt rfl ?_ ?_
    · exact zzt
    repeat' first | refine zzs ?_ | refine zzb ?_ | refine zzk ?_
    refine tr_cond rfl (fun hc => ?_) (fun hc => ?_)
    · exact absurd (of_decide_eq_true hc) (by omega)
    repeat' first | refine zzs ?_ | refine zzb ?_ | refine zzk ?_
    first | refine zzr hnt rfl ?_ ?_ | refine zzd hnt rfl ?_ ?_
    · exact zzt
    repeat' first | refine zzs ?_ | refine zzb ?_ | refine zzk ?_
    refine tr_cond rfl (fun hc => ?_) (fun hc => ?_)
    · exact absurd (of_decide_eq_true hc) (by omega)
    repeat' first | refine zzs ?_ | refine zzb ?_ | refine zzk ?_
    refine tr_region (zzx hnt rfl ?_ (callV rfl rfl rfl rfl rfl rfl rfl hnt rfl (h) (zzx hnt rfl ?_ (Lex.nil _)))) ?_
    · exact zzt
    · exact zzt
    exact tr_ret ⟨.inr rfl, _, _, rfl, zzp, rfl⟩
end Go.Proofs.YthnadkafegmacaaGreatDoor
