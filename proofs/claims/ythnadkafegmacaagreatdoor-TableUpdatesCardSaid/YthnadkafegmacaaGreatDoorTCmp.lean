/- value.Compare, Equal, Less and the document's answers. No condition. -/
import Derived.Test.YthnadkafegmacaaGreatDoorTVal
namespace Go.Proofs.YthnadkafegmacaaGreatDoor
open Go Go.RowKit Go.Proofs.YthnadkafegmacaaGreatDoor.Ab
set_option linter.unusedSimpArgs false
set_option linter.unusedVariables false

def cmpI (x y : Int) : Int := if x < y then -1 else if y < x then 1 else 0
def cmpT (x y : Byt) : Int := if Op.bytesLess x y = true then -1 else if x = y then 0 else 1
def rsn (b : BitVec 64) : BitVec 64 := if b.toNat < 9223372036854775808 then b + BitVec.ofInt 64 9223372036854775808 else ~~~b
def ordV (a b : Val) : Int := if a.k ≠ b.k then cmpI a.k b.k else if a.k = 3 then cmpI ((rsn a.b).toNat : Int) ((rsn b.b).toNat : Int) else if a.k = 4 then cmpT a.t b.t else cmpI a.i b.i
theorem chk_kind {v : Val} (h : chk v = 0) : 0 ≤ v.k ∧ v.k ≤ 4 := by
  unfold chk at h
  split at h
  · cases h
  · omega
theorem chk_real {v : Val} (h : chk v = 0) (hk : v.k = 3) : badQ v.b = false := by
  unfold chk at h
  rw [badR_eq] at h
  cases hb : badQ v.b with
  | false => rfl
  | true =>
    rw [hb] at h
    repeat' split at h
    all_goals first | cases h | skip
    rename_i h1 h2 h3 h4 h5 h6
    exact absurd ⟨hk, rfl⟩ h5
set_option maxRecDepth 10000 in
set_option maxHeartbeats 2000000 in
theorem both_fn (a b : Val) : FnG Tryz.prog 341 gK [.agg (.es (eVal a)), .agg (.es (eVal b))] (.one (.e (eI (if chk a ≠ 0 then chk a else chk b)))) := by
  refine fn_introG (T := tab) tOk Tryz.func341 rfl (by kernel_rfl) (by simp [Tryz.ntmps341]) ?_
  intro X hX
  have hnt : X.nt = 13 := hX
  clear hX
  have h1 := check_fn a
  have h2 := check_fn b
  generalize chk a = e at *
  generalize chk b = f at *
  repeat' first | refine zzs ?_ | refine zzr hnt rfl ?_ ?_ | refine zzd hnt rfl ?_ ?_ | refine zzb ?_ | refine zzk ?_
  · exact zzt
  repeat' first | refine zzs ?_ | refine zzb ?_ | refine zzk ?_
  refine tr_region (zzx hnt rfl ?_ (callV rfl rfl rfl rfl rfl rfl rfl hnt rfl (h1) (zzx hnt rfl ?_ (Lex.nil _)))) ?_
  · exact zzt
  · exact zzt
  repeat' first | refine zzs ?_ | refine zzr hnt rfl ?_ ?_ | refine zzd hnt rfl ?_ ?_ | refine zzb ?_ | refine zzk ?_
  · exact zzt
  repeat' first | refine zzs ?_ | refine zzb ?_ | refine zzk ?_
  refine tr_cond rfl (fun hc => ?_) (fun hc => ?_)
  · simp only [zz1, zz2, zz3, zz4, zz5, zz6, zz7, zz8] at hc
    rw [if_pos hc]
    repeat' first | refine zzs ?_ | refine zzr hnt rfl ?_ ?_ | refine zzd hnt rfl ?_ ?_ | refine zzb ?_ | refine zzk ?_
    · exact zzt
    exact tr_ret ⟨.inr rfl, _, _, rfl, trivial, rfl⟩
  simp only [zz1, zz2, zz3, zz4, zz5, zz6, zz7, zz8] at hc
  rw [if_neg (not_not_intro hc)]
  repeat' first | refine zzs ?_ | refine zzb ?_ | refine zzk ?_
  refine tr_region (zzx hnt rfl ?_ (callV rfl rfl rfl rfl rfl rfl rfl hnt rfl (h2) (zzx hnt rfl ?_ (Lex.nil _)))) ?_
  · exact zzt
  · exact zzt
  exact tr_ret ⟨.inr rfl, _, _, rfl, trivial, rfl⟩
set_option maxRecDepth 10000 in
set_option maxHeartbeats 2000000 in
theorem sign_fn (n : Int) : FnD Tryz.prog 241 [.one (.e (eI n))] (.one (.e (eI (cmpI n 0)))) := by
  refine fn_intro (T := tab) tOk Tryz.func241 rfl (by kernel_rfl) (by simp [Tryz.ntmps241]) ?_
  intro X hX
  have hnt : X.nt = 7 := hX
  clear hX
  unfold cmpI
  repeat' first | refine zzs ?_ | refine zzr hnt rfl ?_ ?_ | refine zzd hnt rfl ?_ ?_ | refine zzb ?_ | refine zzk ?_
  · exact zzt
  · exact zzt
  repeat' first | refine zzs ?_ | refine zzb ?_ | refine zzk ?_
  refine tr_cond rfl (fun hc => ?_) (fun hc => ?_)
  · simp only [zz1, zz2, zz3, zz4, zz5, zz6, zz7, zz8] at hc
    rw [if_neg (by omega), if_pos hc]
    repeat' first | refine zzs ?_ | refine zzr hnt rfl ?_ ?_ | refine zzd hnt rfl ?_ ?_ | refine zzb ?_ | refine zzk ?_
    · exact zzt
    exact tr_ret ⟨.inr rfl, _, _, rfl, trivial, rfl⟩
  simp only [zz1, zz2, zz3, zz4, zz5, zz6, zz7, zz8] at hc
  repeat' first | refine zzs ?_ | refine zzr hnt rfl ?_ ?_ | refine zzd hnt rfl ?_ ?_ | refine zzb ?_ | refine zzk ?_
  · exact zzt
  repeat' first | refine zzs ?_ | refine zzb ?_ | refine zzk ?_
  refine tr_cond rfl (fun hc => ?_) (fun hc => ?_)
  · simp only [zz1, zz2, zz3, zz4, zz5, zz6, zz7, zz8] at hc
    rw [if_pos hc]
    repeat' first | refine zzs ?_ | refine zzr hnt rfl ?_ ?_ | refine zzd hnt rfl ?_ ?_ | refine zzb ?_ | refine zzk ?_
    · exact zzt
    exact tr_ret ⟨.inr rfl, _, _, rfl, trivial, rfl⟩
  simp only [zz1, zz2, zz3, zz4, zz5, zz6, zz7, zz8] at hc
  rw [if_neg hc, if_neg (by omega)]
  repeat' first | refine zzs ?_ | refine zzr hnt rfl ?_ ?_ | refine zzd hnt rfl ?_ ?_ | refine zzb ?_ | refine zzk ?_
  · exact zzt
  exact tr_ret ⟨.inr rfl, _, _, rfl, trivial, rfl⟩
set_option maxRecDepth 10000 in
set_option maxHeartbeats 2000000 in
theorem bitsOrder_fn (a b : BitVec 64) : FnD Tryz.prog 242 [.one (.e (eQ a)), .one (.e (eQ b))] (.one (.e (eI (cmpI (a.toNat : Int) (b.toNat : Int))))) := by
  refine fn_intro (T := tab) tOk Tryz.func242 rfl (by kernel_rfl) (by simp [Tryz.ntmps242]) ?_
  intro X hX
  have hnt : X.nt = 11 := hX
  clear hX
  unfold cmpI
  repeat' first | refine zzs ?_ | refine zzr hnt rfl ?_ ?_ | refine zzd hnt rfl ?_ ?_ | refine zzb ?_ | refine zzk ?_
  · exact zzt
  · exact zzt
  repeat' first | refine zzs ?_ | refine zzb ?_ | refine zzk ?_
  refine tr_cond rfl (fun hc => ?_) (fun hc => ?_)
  · simp only [zz1, zz2, zz3, zz4, zz5, zz6, zz7, zz8] at hc
    rw [if_pos hc]
    repeat' first | refine zzs ?_ | refine zzr hnt rfl ?_ ?_ | refine zzd hnt rfl ?_ ?_ | refine zzb ?_ | refine zzk ?_
    · exact zzt
    exact tr_ret ⟨.inr rfl, _, _, rfl, trivial, rfl⟩
  simp only [zz1, zz2, zz3, zz4, zz5, zz6, zz7, zz8] at hc
  rw [if_neg hc]
  repeat' first | refine zzs ?_ | refine zzr hnt rfl ?_ ?_ | refine zzd hnt rfl ?_ ?_ | refine zzb ?_ | refine zzk ?_
  · exact zzt
  repeat' first | refine zzs ?_ | refine zzb ?_ | refine zzk ?_
  refine tr_cond rfl (fun hc => ?_) (fun hc => ?_)
  · simp only [zz1, zz2, zz3, zz4, zz5, zz6, zz7, zz8] at hc
    rw [if_pos hc]
    repeat' first | refine zzs ?_ | refine zzr hnt rfl ?_ ?_ | refine zzd hnt rfl ?_ ?_ | refine zzb ?_ | refine zzk ?_
    · exact zzt
    exact tr_ret ⟨.inr rfl, _, _, rfl, trivial, rfl⟩
  simp only [zz1, zz2, zz3, zz4, zz5, zz6, zz7, zz8] at hc
  rw [if_neg hc]
  repeat' first | refine zzs ?_ | refine zzr hnt rfl ?_ ?_ | refine zzd hnt rfl ?_ ?_ | refine zzb ?_ | refine zzk ?_
  · exact zzt
  exact tr_ret ⟨.inr rfl, _, _, rfl, trivial, rfl⟩
set_option maxRecDepth 10000 in
set_option maxHeartbeats 2000000 in
theorem risen_fn (b : BitVec 64) : FnD Tryz.prog 223 [.one (.e (eQ b))] (.one (.e (eQ (rsn b)))) := by
  refine fn_intro (T := tab) tOk Tryz.func223 rfl (by kernel_rfl) (by simp [Tryz.ntmps223]) ?_
  intro X hX
  have hnt : X.nt = 9 := hX
  clear hX
  unfold rsn
  repeat' first | refine zzs ?_ | refine zzr hnt rfl ?_ ?_ | refine zzd hnt rfl ?_ ?_ | refine zzb ?_ | refine zzk ?_
  · exact zzt
  · exact zzt
  repeat' first | refine zzs ?_ | refine zzb ?_ | refine zzk ?_
  refine tr_cond rfl (fun hc => ?_) (fun hc => ?_)
  · simp only [zz1, zz2, zz3, zz4, zz5, zz6, zz7, zz8] at hc
    rw [if_pos (by omega)]
    repeat' first | refine zzs ?_ | refine zzr hnt rfl ?_ ?_ | refine zzd hnt rfl ?_ ?_ | refine zzb ?_ | refine zzk ?_
    · exact zzt
    refine tr_ret ⟨.inr rfl, _, _, rfl, trivial, ?_⟩
    exact congrArg (fun z : Int => D.one (D0.e (E.v (.int .u64 z)))) (q_add b (BitVec.ofInt 64 9223372036854775808))
  simp only [zz1, zz2, zz3, zz4, zz5, zz6, zz7, zz8] at hc
  rw [if_neg (by omega)]
  repeat' first | refine zzs ?_ | refine zzr hnt rfl ?_ ?_ | refine zzd hnt rfl ?_ ?_ | refine zzb ?_ | refine zzk ?_
  · exact zzt
  refine tr_ret ⟨.inr rfl, _, _, rfl, trivial, ?_⟩
  exact congrArg (fun z : Int => D.one (D0.e (E.v (.int .u64 z)))) (q_not b)
theorem cmpT_cons (a b : UInt8) (x y : Byt) : cmpT (a :: x) (b :: y) = if a = b then cmpT x y else if a.toNat < b.toNat then -1 else 1 := by
  unfold cmpT
  have h1 : Op.bytesLess (a :: x) (b :: y) = (a < b || (a == b && Op.bytesLess x y)) := rfl
  rw [h1]
  by_cases h : a = b
  · subst h
    have h2 : ¬ (a < a) := UInt8.lt_irrefl a
    simp [h2]
  · have h3 : (a < b) ↔ a.toNat < b.toNat := UInt8.lt_iff_toNat_lt
    simp [h, h3]
theorem cmpT_nil (y : Byt) : cmpT [] y = cmpI (0 - (y.length : Int)) 0 := by
  cases y with
  | nil => rfl
  | cons b y =>
    unfold cmpI
    rw [if_pos (by rw [List.length_cons]; omega)]
    rfl
theorem cmpT_nil' (x : Byt) : cmpT x [] = cmpI ((x.length : Int) - 0) 0 := by
  cases x with
  | nil => rfl
  | cons a x =>
    unfold cmpI
    rw [if_neg (by rw [List.length_cons]; omega), if_pos (by rw [List.length_cons]; omega)]
    rfl
set_option maxRecDepth 10000 in
set_option maxHeartbeats 2000000 in
theorem bytesOrder_fn (x y : Byt) (hx : x.length ≤ maxLen) (hy : y.length ≤ maxLen) : FnD Tryz.prog 243 [.one (.e (eT x)), .one (.e (eT y))] (.one (.e (eI (cmpT x y)))) := by
  refine fn_intro (T := tab) tOk Tryz.func243 rfl (by kernel_rfl) (by simp [Tryz.ntmps243]) ?_
  intro X hX
  have hnt : X.nt = 38 := hX
  clear hX
  have lx : (strB x).size = x.length := strB_size x
  have ly : (strB y).size = y.length := strB_size y
  unfold maxLen at hx hy
  repeat' first | refine zzs ?_ | refine zzr hnt rfl ?_ ?_ | refine zzd hnt rfl ?_ ?_ | refine zzb ?_ | refine zzk ?_
  · exact zzt
  · exact zzt
  repeat' first | refine zzs ?_ | refine zzb ?_ | refine zzk ?_
  refine tr_loop (σ := Nat) (fun i => St.of [(0, .one (.e (eT x))), (1, .one (.e (eT y))), (5, .one (.e (eI (i : Int))))] []) (fun i => cmpT (x.drop i) (y.drop i) = cmpT x y ∧ i ≤ x.length ∧ i ≤ y.length) (fun i => x.length - i) (0) (le_of (ad := []) ⟨zzl, zzl, zzl, trivial⟩ trivial) ⟨rfl, Nat.zero_le _, Nat.zero_le _⟩ ?_
  rintro i ⟨hi, ix, iy⟩
  repeat' first | refine zzs ?_ | refine zzr hnt rfl ?_ ?_ | refine zzd hnt rfl ?_ ?_ | refine zzb ?_ | refine zzk ?_
  · exact zzt
  repeat' first | refine zzs ?_ | refine zzb ?_ | refine zzk ?_
  refine tr_cond rfl (fun hc => ?_) (fun hc => ?_)
  · simp only [zz1, zz2, zz3, zz4, zz5, zz6, zz7, zz8] at hc
    (try simp only [lx, ly] at hc)
    (try simp only [zz1, zz2, zz3, zz4, zz5, zz6, zz7, zz8] at hc)
    have hxi : i < x.length := by omega
    have hyi : i < y.length := by omega
    have ex : x.drop i = x.getD i 0 :: x.drop (i + 1) := by
      rw [List.drop_eq_getElem_cons hxi, List.getD_eq_getElem?_getD, List.getElem?_eq_getElem hxi]
      rfl
    have ey : y.drop i = y.getD i 0 :: y.drop (i + 1) := by
      rw [List.drop_eq_getElem_cons hyi, List.getD_eq_getElem?_getD, List.getElem?_eq_getElem hyi]
      rfl
    rw [ex, ey, cmpT_cons] at hi
    have gx : (strB x).data.toList.getD (Int.toNat (i : Int)) 0 = x.getD i 0 := rfl
    have gy : (strB y).data.toList.getD (Int.toNat (i : Int)) 0 = y.getD i 0 := rfl
    repeat' first | refine zzs ?_ | refine zzb ?_ | refine zzk ?_
    first | refine zzr hnt rfl ?_ ?_ | refine zzd hnt rfl ?_ ?_
    · rw [lx, ly]
      exact zza
    repeat' first | refine zzs ?_ | refine zzb ?_ | refine zzk ?_
    refine tr_cond rfl (fun hc => ?_) (fun hc => ?_)
    · simp only [zz1, zz2, zz3, zz4, zz5, zz6, zz7, zz8] at hc
      (try simp only [gx, gy] at hc)
      (try simp only [zz1, zz2, zz3, zz4, zz5, zz6, zz7, zz8] at hc)
      rw [if_neg (fun h => hc (by rw [h]))] at hi
      repeat' first | refine zzs ?_ | refine zzb ?_ | refine zzk ?_
      first | refine zzr hnt rfl ?_ ?_ | refine zzd hnt rfl ?_ ?_
      · rw [lx, ly]
        exact zza
      repeat' first | refine zzs ?_ | refine zzb ?_ | refine zzk ?_
      refine tr_cond rfl (fun hc => ?_) (fun hc => ?_)
      · simp only [zz1, zz2, zz3, zz4, zz5, zz6, zz7, zz8] at hc
        (try simp only [gx, gy] at hc)
        (try simp only [zz1, zz2, zz3, zz4, zz5, zz6, zz7, zz8] at hc)
        rw [if_pos (by omega)] at hi
        rw [← hi]
        repeat' first | refine zzs ?_ | refine zzr hnt rfl ?_ ?_ | refine zzd hnt rfl ?_ ?_ | refine zzb ?_ | refine zzk ?_
        · exact zzt
        exact tr_ret ⟨.inr rfl, _, _, rfl, trivial, rfl⟩
      simp only [zz1, zz2, zz3, zz4, zz5, zz6, zz7, zz8] at hc
      (try simp only [gx, gy] at hc)
      (try simp only [zz1, zz2, zz3, zz4, zz5, zz6, zz7, zz8] at hc)
      rw [if_neg (by omega)] at hi
      rw [← hi]
      repeat' first | refine zzs ?_ | refine zzr hnt rfl ?_ ?_ | refine zzd hnt rfl ?_ ?_ | refine zzb ?_ | refine zzk ?_
      · exact zzt
      exact tr_ret ⟨.inr rfl, _, _, rfl, trivial, rfl⟩
    simp only [zz1, zz2, zz3, zz4, zz5, zz6, zz7, zz8] at hc
    (try simp only [gx, gy] at hc)
    (try simp only [zz1, zz2, zz3, zz4, zz5, zz6, zz7, zz8] at hc)
    rw [if_pos (UInt8.toNat_inj.1 (by omega))] at hi
    repeat' first | refine zzs ?_ | refine zzr hnt rfl ?_ ?_ | refine zzd hnt rfl ?_ ?_ | refine zzb ?_ | refine zzk ?_
    · exact zzt
    refine ⟨i + 1, ⟨hi, by omega, by omega⟩, by omega, le_of (ad := []) ⟨zzl, zzl, zzl, trivial⟩ trivial⟩
  simp only [zz1, zz2, zz3, zz4, zz5, zz6, zz7, zz8] at hc
  (try simp only [lx, ly] at hc)
  (try simp only [zz1, zz2, zz3, zz4, zz5, zz6, zz7, zz8] at hc)
  refine tr_exit ?_
  have hs : cmpT x y = cmpI ((x.length : Int) - (y.length : Int)) 0 := by
    rw [← hi]
    rcases Nat.lt_or_ge i x.length with h | h
    · have : y.drop i = [] := List.drop_eq_nil_of_le (by omega)
      rw [this, cmpT_nil', List.length_drop]
      congr 1
      omega
    · have : x.drop i = [] := List.drop_eq_nil_of_le h
      rw [this, cmpT_nil, List.length_drop]
      congr 1
      omega
  rw [hs]
  have hw : IntKind.i64.wrap (((strB x).size : Int) - ((strB y).size : Int)) = (x.length : Int) - (y.length : Int) := by rw [lx, ly]; exact wrap64_id (by omega) (by omega)
  have hf := sign_fn ((x.length : Int) - (y.length : Int))
  rw [← hw] at hf
  repeat' first | refine zzs ?_ | refine zzb ?_ | refine zzk ?_
  refine tr_region (zzx hnt rfl ?_ (call rfl rfl rfl rfl rfl rfl rfl hnt (hf) (zzx hnt rfl ?_ (Lex.nil _)))) ?_
  · exact zzt
  · exact zzt
  rw [hw]
  exact tr_ret ⟨.inr rfl, _, _, rfl, trivial, rfl⟩
end Go.Proofs.YthnadkafegmacaaGreatDoor
