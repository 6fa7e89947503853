/- lex.Check and the document's TokenFault: the parts. No condition. -/
import Derived.Test.YtcdifgacoleckaaDoorTVal
namespace Go.Proofs.YtcdifgacoleckaaDoor
open Go Go.RowKit Go.Proofs.YtcdifgacoleckaaDoor.Ab
set_option linter.unusedSimpArgs false
set_option linter.unusedVariables false

def smallB (c : UInt8) : Bool := bif decide ((97 : Int) ≤ (c.toNat : Int)) then decide ((c.toNat : Int) ≤ 122) else false
def greatB (c : UInt8) : Bool := bif decide ((65 : Int) ≤ (c.toNat : Int)) then decide ((c.toNat : Int) ≤ 90) else false
def digitB (c : UInt8) : Bool := bif decide ((48 : Int) ≤ (c.toNat : Int)) then decide ((c.toNat : Int) ≤ 57) else false
def nameB (c : UInt8) : Bool := bif bif smallB c then true else digitB c then true else decide ((c.toNat : Int) = 95)
def smalls : Byt := [97, 98, 99, 100, 101, 102, 103, 104, 105, 106, 107, 108, 109, 110, 111, 112, 113, 114, 115, 116, 117, 118, 119, 120, 121, 122]
def greats : Byt := [65, 66, 67, 68, 69, 70, 71, 72, 73, 74, 75, 76, 77, 78, 79, 80, 81, 82, 83, 84, 85, 86, 87, 88, 89, 90]
def digits : Byt := [48, 49, 50, 51, 52, 53, 54, 55, 56, 57]
def names : Byt := [97, 98, 99, 100, 101, 102, 103, 104, 105, 106, 107, 108, 109, 110, 111, 112, 113, 114, 115, 116, 117, 118, 119, 120, 121, 122, 48, 49, 50, 51, 52, 53, 54, 55, 56, 57, 95]
def amg (l : Byt) (c : UInt8) : Bool := l.any fun x => decide (x = c)
theorem byte_all {p q : UInt8 → Bool} (h : ∀ n : Fin 256, p (UInt8.ofNat n.val) = q (UInt8.ofNat n.val)) (c : UInt8) : p c = q c := by
  have := h ⟨c.toNat, c.toNat_lt⟩
  simpa using this
theorem amg_small : ∀ c, amg smalls c = smallB c := byte_all (by decide +kernel)
theorem amg_great : ∀ c, amg greats c = greatB c := byte_all (by decide +kernel)
theorem amg_digit : ∀ c, amg digits c = digitB c := byte_all (by decide +kernel)
theorem amg_name : ∀ c, amg names c = nameB c := byte_all (by decide +kernel)
set_option maxRecDepth 10000 in
set_option maxHeartbeats 2000000 in
theorem small_fn (c : UInt8) : FnD Tryd.prog 59 [.one (.e (eB c))] (.v (.bool (smallB c))) := by
  refine fn_intro (T := tab) tOk Tryd.func59 rfl (by kernel_rfl) (by simp [Tryd.ntmps59]) ?_
  intro X hX
  have hnt : X.nt = 9 := hX
  clear hX
  repeat' first | refine zzs ?_ | refine zzr hnt rfl ?_ ?_ | refine zzd hnt rfl ?_ ?_ | refine zzb ?_ | refine zzk ?_
  · exact zzt
  · exact zzt
  exact tr_ret ⟨.inr rfl, _, _, rfl, trivial, rfl⟩
set_option maxRecDepth 10000 in
set_option maxHeartbeats 2000000 in
theorem great_fn (c : UInt8) : FnD Tryd.prog 60 [.one (.e (eB c))] (.v (.bool (greatB c))) := by
  refine fn_intro (T := tab) tOk Tryd.func60 rfl (by kernel_rfl) (by simp [Tryd.ntmps60]) ?_
  intro X hX
  have hnt : X.nt = 9 := hX
  clear hX
  repeat' first | refine zzs ?_ | refine zzr hnt rfl ?_ ?_ | refine zzd hnt rfl ?_ ?_ | refine zzb ?_ | refine zzk ?_
  · exact zzt
  · exact zzt
  exact tr_ret ⟨.inr rfl, _, _, rfl, trivial, rfl⟩
set_option maxRecDepth 10000 in
set_option maxHeartbeats 2000000 in
theorem digit_fn (c : UInt8) : FnD Tryd.prog 69 [.one (.e (eB c))] (.v (.bool (digitB c))) := by
  refine fn_intro (T := tab) tOk Tryd.func69 rfl (by kernel_rfl) (by simp [Tryd.ntmps69]) ?_
  intro X hX
  have hnt : X.nt = 9 := hX
  clear hX
  repeat' first | refine zzs ?_ | refine zzr hnt rfl ?_ ?_ | refine zzd hnt rfl ?_ ?_ | refine zzb ?_ | refine zzk ?_
  · exact zzt
  · exact zzt
  exact tr_ret ⟨.inr rfl, _, _, rfl, trivial, rfl⟩
set_option maxRecDepth 10000 in
set_option maxHeartbeats 2000000 in
theorem inName_fn (c : UInt8) : FnD Tryd.prog 58 [.one (.e (eB c))] (.v (.bool (nameB c))) := by
  refine fn_intro (T := tab) tOk Tryd.func58 rfl (by kernel_rfl) (by simp [Tryd.ntmps58]) ?_
  intro X hX
  have hnt : X.nt = 13 := hX
  clear hX
  repeat' first | refine zzs ?_ | refine zzr hnt rfl ?_ ?_ | refine zzd hnt rfl ?_ ?_ | refine zzb ?_ | refine zzk ?_
  · exact zzt
  repeat' first | refine zzs ?_ | refine zzb ?_ | refine zzk ?_
  refine tr_region (zzx hnt rfl ?_ (call rfl rfl rfl rfl rfl rfl rfl hnt (small_fn c) (zzx hnt rfl ?_ (callG rfl rfl rfl rfl rfl rfl hnt rfl (fun hq => ?_) (fun hq => digit_fn c) (zzx hnt rfl ?_ (Lex.nil _)))))) ?_
  · exact zzt
  · exact zzt
  · exact zzt
  · exact zzt
  exact tr_ret ⟨.inr rfl, _, _, rfl, trivial, rfl⟩
set_option maxRecDepth 10000 in
set_option maxHeartbeats 2000000 in
theorem all_fn (s : Byt) (hs : s.length ≤ maxLen) (n : Nat) (q : UInt8 → Bool) (hq : ∀ c, FnD Tryd.prog n [.one (.e (eB c))] (.v (.bool (q c)))) : FnD Tryd.prog 57 [.one (.e (eT s)), .one (.clo n [])] (.v (.bool (s.all q && decide (s.length ≠ 0)))) := by
  refine fn_intro (T := tab) tOk Tryd.func57 rfl (by kernel_rfl) (by simp [Tryd.ntmps57]) ?_
  intro X hX
  have hnt : X.nt = 20 := hX
  clear hX
  have hl : (strB s).size = s.length := strB_size s
  unfold maxLen at hs
  repeat' first | refine zzs ?_ | refine zzr hnt rfl ?_ ?_ | refine zzd hnt rfl ?_ ?_ | refine zzb ?_ | refine zzk ?_
  · exact zzt
  · exact zzt
  repeat' first | refine zzs ?_ | refine zzb ?_ | refine zzk ?_
  refine tr_loop (σ := Nat) (fun i => St.of [(0, .one (.e (eT s))), (1, .one (.clo n [])), (7, .one (.e (eI ((strB s).size : Int)))), (8, .one (.e (eI (i : Int))))] []) (fun i => (s.drop i).all q = s.all q ∧ i ≤ s.length) (fun i => s.length - i) (0) (le_of (ad := []) ⟨zzl, zzl, zzl, zzl, trivial⟩ trivial) ⟨rfl, Nat.zero_le _⟩ ?_
  rintro i ⟨hi, il⟩
  repeat' first | refine zzs ?_ | refine zzr hnt rfl ?_ ?_ | refine zzd hnt rfl ?_ ?_ | refine zzb ?_ | refine zzk ?_
  · exact zzt
  repeat' first | refine zzs ?_ | refine zzb ?_ | refine zzk ?_
  refine tr_cond rfl (fun hc => ?_) (fun hc => ?_)
  · simp only [zz1, zz2, zz3, zz4, zz5, zz6, zz7, zz8] at hc
    (try simp only [hl] at hc)
    (try simp only [zz1, zz2, zz3, zz4, zz5, zz6, zz7, zz8] at hc)
    have hlt : i < s.length := by omega
    rw [drop_getD (d := 0) hlt, List.all_cons] at hi
    repeat' first | refine zzs ?_ | refine zzb ?_ | refine zzk ?_
    first | refine zzr hnt rfl ?_ ?_ | refine zzd hnt rfl ?_ ?_
    · exact zzt
    have gx : (strB s).data.toList.getD (Int.toNat (i : Int)) 0 = s.getD i 0 := rfl
    have hf := hq (s.getD i 0)
    rw [← gx] at hf
    repeat' first | refine zzs ?_ | refine zzb ?_ | refine zzk ?_
    refine tr_region (zzx hnt rfl ?_ (call rfl rfl rfl rfl rfl rfl rfl hnt (hf) (zzx hnt rfl ?_ (Lex.nil _)))) ?_
    · rw [hl]
      exact zza
    · exact zzt
    rw [gx]
    repeat' first | refine zzs ?_ | refine zzb ?_ | refine zzk ?_
    refine tr_cond rfl (fun hc => ?_) (fun hc => ?_)
    · simp only [zz1, zz2, zz3, zz4, zz5, zz6, zz7, zz8] at hc
      rw [hc, Bool.false_and] at hi
      rw [← hi]
      repeat' first | refine zzs ?_ | refine zzr hnt rfl ?_ ?_ | refine zzd hnt rfl ?_ ?_ | refine zzb ?_ | refine zzk ?_
      · exact zzt
      exact tr_ret ⟨.inr rfl, _, _, rfl, trivial, rfl⟩
    simp only [zz1, zz2, zz3, zz4, zz5, zz6, zz7, zz8] at hc
    rw [hc, Bool.true_and] at hi
    repeat' first | refine zzs ?_ | refine zzr hnt rfl ?_ ?_ | refine zzd hnt rfl ?_ ?_ | refine zzb ?_ | refine zzk ?_
    · exact zzt
    refine ⟨i + 1, ⟨hi, by omega⟩, by omega, le_of (ad := []) ⟨zzl, zzl, zzl, zzl, trivial⟩ trivial⟩
  simp only [zz1, zz2, zz3, zz4, zz5, zz6, zz7, zz8] at hc
  (try simp only [hl] at hc)
  (try simp only [zz1, zz2, zz3, zz4, zz5, zz6, zz7, zz8] at hc)
  refine tr_exit ?_
  rw [← hi, List.drop_eq_nil_of_le (by omega)]
  repeat' first | refine zzs ?_ | refine zzr hnt rfl ?_ ?_ | refine zzd hnt rfl ?_ ?_ | refine zzb ?_ | refine zzk ?_
  · exact zzt
  refine tr_ret ⟨.inr rfl, _, _, rfl, trivial, ?_⟩
  refine congrArg (fun z : Bool => D.v (.bool z)) ?_
  rw [strEq_nil]
  simp
set_option maxRecDepth 10000 in
set_option maxHeartbeats 2000000 in
theorem among_fn (c : UInt8) (l : Byt) (hm : l.length ≤ maxLen) : FnD Tryd.prog 43 [.one (.e (eB c)), .one (.e (eT l))] (.v (.bool (amg l c))) := by
  refine fn_intro (T := tab) tOk Tryd.func43 rfl (by kernel_rfl) (by simp [Tryd.ntmps43]) ?_
  intro X hX
  have hnt : X.nt = 17 := hX
  clear hX
  have hl : (strB l).size = l.length := strB_size l
  unfold maxLen at hm
  unfold amg
  repeat' first | refine zzs ?_ | refine zzr hnt rfl ?_ ?_ | refine zzd hnt rfl ?_ ?_ | refine zzb ?_ | refine zzk ?_
  · exact zzt
  · exact zzt
  repeat' first | refine zzs ?_ | refine zzb ?_ | refine zzk ?_
  refine tr_loop (σ := Nat) (fun i => St.of [(0, .one (.e (eB c))), (1, .one (.e (eT l))), (5, .one (.e (eI (i : Int))))] []) (fun i => ((l.drop i).any fun x => decide (x = c)) = (l.any fun x => decide (x = c)) ∧ i ≤ l.length) (fun i => l.length - i) (0) (le_of (ad := []) ⟨zzl, zzl, zzl, trivial⟩ trivial) ⟨rfl, Nat.zero_le _⟩ ?_
  rintro i ⟨hi, il⟩
  repeat' first | refine zzs ?_ | refine zzr hnt rfl ?_ ?_ | refine zzd hnt rfl ?_ ?_ | refine zzb ?_ | refine zzk ?_
  · exact zzt
  repeat' first | refine zzs ?_ | refine zzb ?_ | refine zzk ?_
  refine tr_cond rfl (fun hc => ?_) (fun hc => ?_)
  · simp only [zz1, zz2, zz3, zz4, zz5, zz6, zz7, zz8] at hc
    (try simp only [hl] at hc)
    (try simp only [zz1, zz2, zz3, zz4, zz5, zz6, zz7, zz8] at hc)
    have hlt : i < l.length := by omega
    rw [drop_getD (d := 0) hlt, List.any_cons] at hi
    have gx : (strB l).data.toList.getD (Int.toNat (i : Int)) 0 = l.getD i 0 := rfl
    repeat' first | refine zzs ?_ | refine zzb ?_ | refine zzk ?_
    first | refine zzr hnt rfl ?_ ?_ | refine zzd hnt rfl ?_ ?_
    · rw [hl]
      exact zza
    repeat' first | refine zzs ?_ | refine zzb ?_ | refine zzk ?_
    refine tr_cond rfl (fun hc => ?_) (fun hc => ?_)
    · simp only [zz1, zz2, zz3, zz4, zz5, zz6, zz7, zz8] at hc
      (try simp only [gx] at hc)
      (try simp only [zz1, zz2, zz3, zz4, zz5, zz6, zz7, zz8] at hc)
      rw [decide_eq_true (UInt8.toNat_inj.1 (by omega)), Bool.true_or] at hi
      rw [← hi]
      repeat' first | refine zzs ?_ | refine zzr hnt rfl ?_ ?_ | refine zzd hnt rfl ?_ ?_ | refine zzb ?_ | refine zzk ?_
      · exact zzt
      exact tr_ret ⟨.inr rfl, _, _, rfl, trivial, rfl⟩
    simp only [zz1, zz2, zz3, zz4, zz5, zz6, zz7, zz8] at hc
    (try simp only [gx] at hc)
    (try simp only [zz1, zz2, zz3, zz4, zz5, zz6, zz7, zz8] at hc)
    rw [decide_eq_false (fun h => hc (by rw [h])), Bool.false_or] at hi
    repeat' first | refine zzs ?_ | refine zzr hnt rfl ?_ ?_ | refine zzd hnt rfl ?_ ?_ | refine zzb ?_ | refine zzk ?_
    · exact zzt
    refine ⟨i + 1, ⟨hi, by omega⟩, by omega, le_of (ad := []) ⟨zzl, zzl, zzl, trivial⟩ trivial⟩
  simp only [zz1, zz2, zz3, zz4, zz5, zz6, zz7, zz8] at hc
  (try simp only [hl] at hc)
  (try simp only [zz1, zz2, zz3, zz4, zz5, zz6, zz7, zz8] at hc)
  refine tr_exit ?_
  rw [← hi, List.drop_eq_nil_of_le (by omega)]
  repeat' first | refine zzs ?_ | refine zzr hnt rfl ?_ ?_ | refine zzd hnt rfl ?_ ?_ | refine zzb ?_ | refine zzk ?_
  · exact zzt
  exact tr_ret ⟨.inr rfl, _, _, rfl, trivial, rfl⟩
def rchF (q : UInt8 → Bool) : Byt → Nat
  | [] => 0
  | a :: x => if q a = true then rchF q x + 1 else 0
theorem rchF_all (q : UInt8 → Bool) : ∀ x : Byt, decide ((rchF q x : Int) = (x.length : Int)) = x.all q
  | [] => rfl
  | a :: x => by
    have ih := rchF_all q x
    have hle : ∀ y : Byt, rchF q y ≤ y.length := by
      intro y
      induction y with
      | nil => exact Nat.le_refl _
      | cons b y ih => rw [rchF, List.length_cons]; split <;> omega
    rw [rchF, List.all_cons, ← ih, List.length_cons]
    cases h : q a with
    | true => rw [if_pos rfl, Bool.true_and, Bool.eq_iff_iff, decide_eq_true_eq, decide_eq_true_eq]; omega
    | false => rw [if_neg Bool.false_ne_true, Bool.false_and, decide_eq_false (by omega)]
set_option maxRecDepth 10000 in
set_option maxHeartbeats 2000000 in
theorem reach_fn (s l : Byt) (hs : s.length ≤ maxLen) (hm : l.length ≤ maxLen) : FnD Tryd.prog 52 [.one (.e (eT s)), .one (.e (eT l))] (.one (.e (eI (rchF (amg l) s : Int)))) := by
  refine fn_intro (T := tab) tOk Tryd.func52 rfl (by kernel_rfl) (by simp [Tryd.ntmps52]) ?_
  intro X hX
  have hnt : X.nt = 20 := hX
  clear hX
  have hl : (strB s).size = s.length := strB_size s
  unfold maxLen at hs
  repeat' first | refine zzs ?_ | refine zzr hnt rfl ?_ ?_ | refine zzd hnt rfl ?_ ?_ | refine zzb ?_ | refine zzk ?_
  · exact zzt
  · exact zzt
  repeat' first | refine zzs ?_ | refine zzb ?_ | refine zzk ?_
  refine tr_loop (σ := Nat) (fun i => St.of [(0, .one (.e (eT s))), (1, .one (.e (eT l))), (5, .one (.e (eI (i : Int))))] []) (fun i => rchF (amg l) (s.drop i) + i = rchF (amg l) s ∧ i ≤ s.length) (fun i => s.length - i) (0) (le_of (ad := []) ⟨zzl, zzl, zzl, trivial⟩ trivial) ⟨rfl, Nat.zero_le _⟩ ?_
  rintro i ⟨hi, il⟩
  have gx : (strB s).data.toList.getD (Int.toNat (i : Int)) 0 = s.getD i 0 := rfl
  have hf := among_fn (s.getD i 0) l hm
  rw [← gx] at hf
  repeat' first | refine zzs ?_ | refine zzb ?_ | refine zzk ?_
  refine tr_region (zzx hnt rfl ?_ (callG rfl rfl rfl rfl rfl rfl hnt rfl (fun hq => ?_) (fun hq => hf) (zzx hnt rfl ?_ (Lex.nil _)))) ?_
  · rw [hl]
    exact zza
  · exact zzt
  · exact zzt
  rw [gx]
  repeat' first | refine zzs ?_ | refine zzb ?_ | refine zzk ?_
  refine tr_cond rfl (fun hc => ?_) (fun hc => ?_)
  · simp only [zz1, zz2, zz3, zz4, zz5, zz6, zz7, zz8] at hc
    (try simp only [hl] at hc)
    (try simp only [zz1, zz2, zz3, zz4, zz5, zz6, zz7, zz8] at hc)
    have hlt : i < s.length := by omega
    rw [drop_getD (d := 0) hlt, rchF, if_pos hc.2] at hi
    repeat' first | refine zzs ?_ | refine zzr hnt rfl ?_ ?_ | refine zzd hnt rfl ?_ ?_ | refine zzb ?_ | refine zzk ?_
    · exact zzt
    refine ⟨i + 1, ⟨by omega, by omega⟩, by omega, le_of (ad := []) ⟨zzl, zzl, zzl, trivial⟩ trivial⟩
  simp only [zz1, zz2, zz3, zz4, zz5, zz6, zz7, zz8] at hc
  (try simp only [hl] at hc)
  (try simp only [zz1, zz2, zz3, zz4, zz5, zz6, zz7, zz8] at hc)
  refine tr_exit ?_
  have hz : rchF (amg l) (s.drop i) = 0 := by
    rcases Nat.lt_or_ge i s.length with h | h
    · rw [drop_getD (d := 0) h, rchF, if_neg]
      rcases hc with hc | hc
      · omega
      · rw [hc]; exact Bool.false_ne_true
    · rw [List.drop_eq_nil_of_le h]; rfl
  rw [← hi, hz, Nat.zero_add]
  repeat' first | refine zzs ?_ | refine zzr hnt rfl ?_ ?_ | refine zzd hnt rfl ?_ ?_ | refine zzb ?_ | refine zzk ?_
  · exact zzt
  exact tr_ret ⟨.inr rfl, _, _, rfl, trivial, rfl⟩
def isNm (s : Byt) : Bool := bif bif decide (s.length ≠ 0) then smallB (s.getD 0 0) else false then s.all nameB else false
set_option maxRecDepth 10000 in
set_option maxHeartbeats 2000000 in
theorem isName_fn (s : Byt) (hs : s.length ≤ maxLen) : FnD Tryd.prog 38 [.one (.e (eT s))] (.v (.bool (isNm s))) := by
  refine fn_intro (T := tab) tOk Tryd.func38 rfl (by kernel_rfl) (by simp [Tryd.ntmps38]) ?_
  intro X hX
  have hnt : X.nt = 17 := hX
  clear hX
  have hl : (strB s).size = s.length := strB_size s
  repeat' first | refine zzs ?_ | refine zzr hnt rfl ?_ ?_ | refine zzd hnt rfl ?_ ?_ | refine zzb ?_ | refine zzk ?_
  · exact zzt
  have gx : (strB s).data.toList.getD (Int.toNat 0) 0 = s.getD 0 0 := rfl
  have hf := among_fn (s.getD 0 0) smalls (by decide)
  rw [← gx] at hf
  repeat' first | refine zzs ?_ | refine zzb ?_ | refine zzk ?_
  refine tr_region (zzx hnt rfl ?_ (callG rfl rfl rfl rfl rfl rfl hnt rfl (fun hq => ?_) (fun hq => hf) (zzx hnt rfl ?_ (callG rfl rfl rfl rfl rfl rfl hnt rfl (fun hq => ?_) (fun hq => reach_fn s names hs (by decide)) (zzx hnt rfl ?_ (Lex.nil _)))))) ?_
  · rw [strEq_nil, hl]
    exact zza
  · exact zzt
  · exact zzt
  · exact zzt
  · exact zzt
  refine tr_ret ⟨.inr rfl, _, _, rfl, trivial, ?_⟩
  refine congrArg (fun z : Bool => D.v (.bool z)) ?_
  rw [strEq_nil, hl, rchF_all, gx, amg_small]
  unfold isNm
  rw [show amg names = nameB from funext amg_name]
  congr 2
  simp
def signs : List Byt := [[40], [41], [44], [46], [61], [60], [62], [60, 61], [62, 61], [60, 62], [43], [45], [42], [47], [124, 124], [59]]
def isSg (t : Byt) : Bool := signs.any fun x => decide (t = x)
set_option maxRecDepth 10000 in
set_option maxHeartbeats 2000000 in
theorem sign0_fn (t : Byt) : FnD Tryd.prog 61 [.one (.e (eT t))] (.v (.bool (isSg t))) := by
  refine fn_intro (T := tab) tOk Tryd.func61 rfl (by kernel_rfl) (by simp [Tryd.ntmps61]) ?_
  intro X hX
  have hnt : X.nt = 21 := hX
  clear hX
  repeat' first | refine zzs ?_ | refine zzr hnt rfl ?_ ?_ | refine zzd hnt rfl ?_ ?_ | refine zzb ?_ | refine zzk ?_
  · exact zzt
  · exact zzt
  · exact zzt
  have e0 : strEq (strB t) ⟨#[40]⟩ = decide (t = [40]) := strEq_B t [40]
  rw [e0]
  repeat' first | refine zzs ?_ | refine zzb ?_ | refine zzk ?_
  refine tr_cond rfl (fun hc => ?_) (fun hc => ?_)
  · have h := of_decide_eq_true hc
    rw [h]
    repeat' first | refine zzs ?_ | refine zzb ?_ | refine zzk ?_
    refine tr_cond rfl (fun hc => ?_) (fun hc => ?_)
    · repeat' first | refine zzs ?_ | refine zzr hnt rfl ?_ ?_ | refine zzd hnt rfl ?_ ?_ | refine zzb ?_ | refine zzk ?_
      · exact zzt
      exact tr_ret ⟨.inr rfl, _, _, rfl, trivial, rfl⟩
    exact absurd hc (by decide)
  simp only [zz1, zz2, zz3, zz4, zz5, zz6, zz7, zz8] at hc
  have h0 := hc
  repeat' first | refine zzs ?_ | refine zzb ?_ | refine zzk ?_
  first | refine zzr hnt rfl ?_ ?_ | refine zzd hnt rfl ?_ ?_
  · exact zzt
  have e1 : strEq (strB t) ⟨#[41]⟩ = decide (t = [41]) := strEq_B t [41]
  rw [e1]
  repeat' first | refine zzs ?_ | refine zzb ?_ | refine zzk ?_
  refine tr_cond rfl (fun hc => ?_) (fun hc => ?_)
  · have h := of_decide_eq_true hc
    rw [h]
    repeat' first | refine zzs ?_ | refine zzb ?_ | refine zzk ?_
    refine tr_cond rfl (fun hc => ?_) (fun hc => ?_)
    · repeat' first | refine zzs ?_ | refine zzr hnt rfl ?_ ?_ | refine zzd hnt rfl ?_ ?_ | refine zzb ?_ | refine zzk ?_
      · exact zzt
      exact tr_ret ⟨.inr rfl, _, _, rfl, trivial, rfl⟩
    exact absurd hc (by decide)
  simp only [zz1, zz2, zz3, zz4, zz5, zz6, zz7, zz8] at hc
  have h1 := hc
  repeat' first | refine zzs ?_ | refine zzb ?_ | refine zzk ?_
  first | refine zzr hnt rfl ?_ ?_ | refine zzd hnt rfl ?_ ?_
  · exact zzt
  have e2 : strEq (strB t) ⟨#[44]⟩ = decide (t = [44]) := strEq_B t [44]
  rw [e2]
  repeat' first | refine zzs ?_ | refine zzb ?_ | refine zzk ?_
  refine tr_cond rfl (fun hc => ?_) (fun hc => ?_)
  · have h := of_decide_eq_true hc
    rw [h]
    repeat' first | refine zzs ?_ | refine zzb ?_ | refine zzk ?_
    refine tr_cond rfl (fun hc => ?_) (fun hc => ?_)
    · repeat' first | refine zzs ?_ | refine zzr hnt rfl ?_ ?_ | refine zzd hnt rfl ?_ ?_ | refine zzb ?_ | refine zzk ?_
      · exact zzt
      exact tr_ret ⟨.inr rfl, _, _, rfl, trivial, rfl⟩
    exact absurd hc (by decide)
  simp only [zz1, zz2, zz3, zz4, zz5, zz6, zz7, zz8] at hc
  have h2 := hc
  repeat' first | refine zzs ?_ | refine zzb ?_ | refine zzk ?_
  first | refine zzr hnt rfl ?_ ?_ | refine zzd hnt rfl ?_ ?_
  · exact zzt
  have e3 : strEq (strB t) ⟨#[46]⟩ = decide (t = [46]) := strEq_B t [46]
  rw [e3]
  repeat' first | refine zzs ?_ | refine zzb ?_ | refine zzk ?_
  refine tr_cond rfl (fun hc => ?_) (fun hc => ?_)
  · have h := of_decide_eq_true hc
    rw [h]
    repeat' first | refine zzs ?_ | refine zzb ?_ | refine zzk ?_
    refine tr_cond rfl (fun hc => ?_) (fun hc => ?_)
    · repeat' first | refine zzs ?_ | refine zzr hnt rfl ?_ ?_ | refine zzd hnt rfl ?_ ?_ | refine zzb ?_ | refine zzk ?_
      · exact zzt
      exact tr_ret ⟨.inr rfl, _, _, rfl, trivial, rfl⟩
    exact absurd hc (by decide)
  simp only [zz1, zz2, zz3, zz4, zz5, zz6, zz7, zz8] at hc
  have h3 := hc
  repeat' first | refine zzs ?_ | refine zzb ?_ | refine zzk ?_
  first | refine zzr hnt rfl ?_ ?_ | refine zzd hnt rfl ?_ ?_
  · exact zzt
  have e4 : strEq (strB t) ⟨#[61]⟩ = decide (t = [61]) := strEq_B t [61]
  rw [e4]
  repeat' first | refine zzs ?_ | refine zzb ?_ | refine zzk ?_
  refine tr_cond rfl (fun hc => ?_) (fun hc => ?_)
  · have h := of_decide_eq_true hc
    rw [h]
    repeat' first | refine zzs ?_ | refine zzb ?_ | refine zzk ?_
    refine tr_cond rfl (fun hc => ?_) (fun hc => ?_)
    · repeat' first | refine zzs ?_ | refine zzr hnt rfl ?_ ?_ | refine zzd hnt rfl ?_ ?_ | refine zzb ?_ | refine zzk ?_
      · exact zzt
      exact tr_ret ⟨.inr rfl, _, _, rfl, trivial, rfl⟩
    exact absurd hc (by decide)
  simp only [zz1, zz2, zz3, zz4, zz5, zz6, zz7, zz8] at hc
  have h4 := hc
  repeat' first | refine zzs ?_ | refine zzb ?_ | refine zzk ?_
  first | refine zzr hnt rfl ?_ ?_ | refine zzd hnt rfl ?_ ?_
  · exact zzt
  have e5 : strEq (strB t) ⟨#[60]⟩ = decide (t = [60]) := strEq_B t [60]
  rw [e5]
  repeat' first | refine zzs ?_ | refine zzb ?_ | refine zzk ?_
  refine tr_cond rfl (fun hc => ?_) (fun hc => ?_)
  · have h := of_decide_eq_true hc
    rw [h]
    repeat' first | refine zzs ?_ | refine zzb ?_ | refine zzk ?_
    refine tr_cond rfl (fun hc => ?_) (fun hc => ?_)
    · repeat' first | refine zzs ?_ | refine zzr hnt rfl ?_ ?_ | refine zzd hnt rfl ?_ ?_ | refine zzb ?_ | refine zzk ?_
      · exact zzt
      exact tr_ret ⟨.inr rfl, _, _, rfl, trivial, rfl⟩
    exact absurd hc (by decide)
  simp only [zz1, zz2, zz3, zz4, zz5, zz6, zz7, zz8] at hc
  have h5 := hc
  repeat' first | refine zzs ?_ | refine zzb ?_ | refine zzk ?_
  first | refine zzr hnt rfl ?_ ?_ | refine zzd hnt rfl ?_ ?_
  · exact zzt
  have e6 : strEq (strB t) ⟨#[62]⟩ = decide (t = [62]) := strEq_B t [62]
  rw [e6]
  repeat' first | refine zzs ?_ | refine zzb ?_ | refine zzk ?_
  refine tr_cond rfl (fun hc => ?_) (fun hc => ?_)
  · have h := of_decide_eq_true hc
    rw [h]
    repeat' first | refine zzs ?_ | refine zzb ?_ | refine zzk ?_
    refine tr_cond rfl (fun hc => ?_) (fun hc => ?_)
    · repeat' first | refine zzs ?_ | refine zzr hnt rfl ?_ ?_ | refine zzd hnt rfl ?_ ?_ | refine zzb ?_ | refine zzk ?_
      · exact zzt
      exact tr_ret ⟨.inr rfl, _, _, rfl, trivial, rfl⟩
    exact absurd hc (by decide)
  simp only [zz1, zz2, zz3, zz4, zz5, zz6, zz7, zz8] at hc
  have h6 := hc
  repeat' first | refine zzs ?_ | refine zzb ?_ | refine zzk ?_
  first | refine zzr hnt rfl ?_ ?_ | refine zzd hnt rfl ?_ ?_
  · exact zzt
  have e7 : strEq (strB t) ⟨#[60, 61]⟩ = decide (t = [60, 61]) := strEq_B t [60, 61]
  rw [e7]
  repeat' first | refine zzs ?_ | refine zzb ?_ | refine zzk ?_
  refine tr_cond rfl (fun hc => ?_) (fun hc => ?_)
  · have h := of_decide_eq_true hc
    rw [h]
    repeat' first | refine zzs ?_ | refine zzb ?_ | refine zzk ?_
    refine tr_cond rfl (fun hc => ?_) (fun hc => ?_)
    · repeat' first | refine zzs ?_ | refine zzr hnt rfl ?_ ?_ | refine zzd hnt rfl ?_ ?_ | refine zzb ?_ | refine zzk ?_
      · exact zzt
      exact tr_ret ⟨.inr rfl, _, _, rfl, trivial, rfl⟩
    exact absurd hc (by decide)
  simp only [zz1, zz2, zz3, zz4, zz5, zz6, zz7, zz8] at hc
  have h7 := hc
  repeat' first | refine zzs ?_ | refine zzb ?_ | refine zzk ?_
  first | refine zzr hnt rfl ?_ ?_ | refine zzd hnt rfl ?_ ?_
  · exact zzt
  have e8 : strEq (strB t) ⟨#[62, 61]⟩ = decide (t = [62, 61]) := strEq_B t [62, 61]
  rw [e8]
  repeat' first | refine zzs ?_ | refine zzb ?_ | refine zzk ?_
  refine tr_cond rfl (fun hc => ?_) (fun hc => ?_)
  · have h := of_decide_eq_true hc
    rw [h]
    repeat' first | refine zzs ?_ | refine zzb ?_ | refine zzk ?_
    refine tr_cond rfl (fun hc => ?_) (fun hc => ?_)
    · repeat' first | refine zzs ?_ | refine zzr hnt rfl ?_ ?_ | refine zzd hnt rfl ?_ ?_ | refine zzb ?_ | refine zzk ?_
      · exact zzt
      exact tr_ret ⟨.inr rfl, _, _, rfl, trivial, rfl⟩
    exact absurd hc (by decide)
  simp only [zz1, zz2, zz3, zz4, zz5, zz6, zz7, zz8] at hc
  have h8 := hc
  repeat' first | refine zzs ?_ | refine zzb ?_ | refine zzk ?_
  first | refine zzr hnt rfl ?_ ?_ | refine zzd hnt rfl ?_ ?_
  · exact zzt
  have e9 : strEq (strB t) ⟨#[60, 62]⟩ = decide (t = [60, 62]) := strEq_B t [60, 62]
  rw [e9]
  repeat' first | refine zzs ?_ | refine zzb ?_ | refine zzk ?_
  refine tr_cond rfl (fun hc => ?_) (fun hc => ?_)
  · have h := of_decide_eq_true hc
    rw [h]
    repeat' first | refine zzs ?_ | refine zzb ?_ | refine zzk ?_
    refine tr_cond rfl (fun hc => ?_) (fun hc => ?_)
    · repeat' first | refine zzs ?_ | refine zzr hnt rfl ?_ ?_ | refine zzd hnt rfl ?_ ?_ | refine zzb ?_ | refine zzk ?_
      · exact zzt
      exact tr_ret ⟨.inr rfl, _, _, rfl, trivial, rfl⟩
    exact absurd hc (by decide)
  simp only [zz1, zz2, zz3, zz4, zz5, zz6, zz7, zz8] at hc
  have h9 := hc
  repeat' first | refine zzs ?_ | refine zzb ?_ | refine zzk ?_
  first | refine zzr hnt rfl ?_ ?_ | refine zzd hnt rfl ?_ ?_
  · exact zzt
  have e10 : strEq (strB t) ⟨#[43]⟩ = decide (t = [43]) := strEq_B t [43]
  rw [e10]
  repeat' first | refine zzs ?_ | refine zzb ?_ | refine zzk ?_
  refine tr_cond rfl (fun hc => ?_) (fun hc => ?_)
  · have h := of_decide_eq_true hc
    rw [h]
    repeat' first | refine zzs ?_ | refine zzb ?_ | refine zzk ?_
    refine tr_cond rfl (fun hc => ?_) (fun hc => ?_)
    · repeat' first | refine zzs ?_ | refine zzr hnt rfl ?_ ?_ | refine zzd hnt rfl ?_ ?_ | refine zzb ?_ | refine zzk ?_
      · exact zzt
      exact tr_ret ⟨.inr rfl, _, _, rfl, trivial, rfl⟩
    exact absurd hc (by decide)
  simp only [zz1, zz2, zz3, zz4, zz5, zz6, zz7, zz8] at hc
  have h10 := hc
  repeat' first | refine zzs ?_ | refine zzb ?_ | refine zzk ?_
  first | refine zzr hnt rfl ?_ ?_ | refine zzd hnt rfl ?_ ?_
  · exact zzt
  have e11 : strEq (strB t) ⟨#[45]⟩ = decide (t = [45]) := strEq_B t [45]
  rw [e11]
  repeat' first | refine zzs ?_ | refine zzb ?_ | refine zzk ?_
  refine tr_cond rfl (fun hc => ?_) (fun hc => ?_)
  · have h := of_decide_eq_true hc
    rw [h]
    repeat' first | refine zzs ?_ | refine zzb ?_ | refine zzk ?_
    refine tr_cond rfl (fun hc => ?_) (fun hc => ?_)
    · repeat' first | refine zzs ?_ | refine zzr hnt rfl ?_ ?_ | refine zzd hnt rfl ?_ ?_ | refine zzb ?_ | refine zzk ?_
      · exact zzt
      exact tr_ret ⟨.inr rfl, _, _, rfl, trivial, rfl⟩
    exact absurd hc (by decide)
  simp only [zz1, zz2, zz3, zz4, zz5, zz6, zz7, zz8] at hc
  have h11 := hc
  repeat' first | refine zzs ?_ | refine zzb ?_ | refine zzk ?_
  first | refine zzr hnt rfl ?_ ?_ | refine zzd hnt rfl ?_ ?_
  · exact zzt
  have e12 : strEq (strB t) ⟨#[42]⟩ = decide (t = [42]) := strEq_B t [42]
  rw [e12]
  repeat' first | refine zzs ?_ | refine zzb ?_ | refine zzk ?_
  refine tr_cond rfl (fun hc => ?_) (fun hc => ?_)
  · have h := of_decide_eq_true hc
    rw [h]
    repeat' first | refine zzs ?_ | refine zzb ?_ | refine zzk ?_
    refine tr_cond rfl (fun hc => ?_) (fun hc => ?_)
    · repeat' first | refine zzs ?_ | refine zzr hnt rfl ?_ ?_ | refine zzd hnt rfl ?_ ?_ | refine zzb ?_ | refine zzk ?_
      · exact zzt
      exact tr_ret ⟨.inr rfl, _, _, rfl, trivial, rfl⟩
    exact absurd hc (by decide)
  simp only [zz1, zz2, zz3, zz4, zz5, zz6, zz7, zz8] at hc
  have h12 := hc
  repeat' first | refine zzs ?_ | refine zzb ?_ | refine zzk ?_
  first | refine zzr hnt rfl ?_ ?_ | refine zzd hnt rfl ?_ ?_
  · exact zzt
  have e13 : strEq (strB t) ⟨#[47]⟩ = decide (t = [47]) := strEq_B t [47]
  rw [e13]
  repeat' first | refine zzs ?_ | refine zzb ?_ | refine zzk ?_
  refine tr_cond rfl (fun hc => ?_) (fun hc => ?_)
  · have h := of_decide_eq_true hc
    rw [h]
    repeat' first | refine zzs ?_ | refine zzb ?_ | refine zzk ?_
    refine tr_cond rfl (fun hc => ?_) (fun hc => ?_)
    · repeat' first | refine zzs ?_ | refine zzr hnt rfl ?_ ?_ | refine zzd hnt rfl ?_ ?_ | refine zzb ?_ | refine zzk ?_
      · exact zzt
      exact tr_ret ⟨.inr rfl, _, _, rfl, trivial, rfl⟩
    exact absurd hc (by decide)
  simp only [zz1, zz2, zz3, zz4, zz5, zz6, zz7, zz8] at hc
  have h13 := hc
  repeat' first | refine zzs ?_ | refine zzb ?_ | refine zzk ?_
  first | refine zzr hnt rfl ?_ ?_ | refine zzd hnt rfl ?_ ?_
  · exact zzt
  have e14 : strEq (strB t) ⟨#[124, 124]⟩ = decide (t = [124, 124]) := strEq_B t [124, 124]
  rw [e14]
  repeat' first | refine zzs ?_ | refine zzb ?_ | refine zzk ?_
  refine tr_cond rfl (fun hc => ?_) (fun hc => ?_)
  · have h := of_decide_eq_true hc
    rw [h]
    repeat' first | refine zzs ?_ | refine zzb ?_ | refine zzk ?_
    refine tr_cond rfl (fun hc => ?_) (fun hc => ?_)
    · repeat' first | refine zzs ?_ | refine zzr hnt rfl ?_ ?_ | refine zzd hnt rfl ?_ ?_ | refine zzb ?_ | refine zzk ?_
      · exact zzt
      exact tr_ret ⟨.inr rfl, _, _, rfl, trivial, rfl⟩
    exact absurd hc (by decide)
  simp only [zz1, zz2, zz3, zz4, zz5, zz6, zz7, zz8] at hc
  have h14 := hc
  repeat' first | refine zzs ?_ | refine zzb ?_ | refine zzk ?_
  first | refine zzr hnt rfl ?_ ?_ | refine zzd hnt rfl ?_ ?_
  · exact zzt
  have e15 : strEq (strB t) ⟨#[59]⟩ = decide (t = [59]) := strEq_B t [59]
  rw [e15]
  repeat' first | refine zzs ?_ | refine zzb ?_ | refine zzk ?_
  refine tr_cond rfl (fun hc => ?_) (fun hc => ?_)
  · have h := of_decide_eq_true hc
    rw [h]
    repeat' first | refine zzs ?_ | refine zzr hnt rfl ?_ ?_ | refine zzd hnt rfl ?_ ?_ | refine zzb ?_ | refine zzk ?_
    · exact zzt
    exact tr_ret ⟨.inr rfl, _, _, rfl, trivial, rfl⟩
  simp only [zz1, zz2, zz3, zz4, zz5, zz6, zz7, zz8] at hc
  have h15 := hc
  have hs : isSg t = false := by simp only [isSg, signs, List.any_cons, List.any_nil, Bool.or_false, Bool.or_eq_false_iff, decide_eq_false_iff_not]; exact ⟨h0, h1, h2, h3, h4, h5, h6, h7, h8, h9, h10, h11, h12, h13, h14, h15⟩
  rw [hs]
  repeat' first | refine zzs ?_ | refine zzr hnt rfl ?_ ?_ | refine zzd hnt rfl ?_ ?_ | refine zzb ?_ | refine zzk ?_
  · exact zzt
  exact tr_ret ⟨.inr rfl, _, _, rfl, trivial, rfl⟩
set_option maxRecDepth 10000 in
set_option maxHeartbeats 2000000 in
theorem isSign_fn (t : Byt) : FnD Tryd.prog 56 [.one (.e (eT t))] (.v (.bool (isSg t))) := by
  refine fn_intro (T := tab) tOk Tryd.func56 rfl (by kernel_rfl) (by simp [Tryd.ntmps56]) ?_
  intro X hX
  have hnt : X.nt = 15 := hX
  clear hX
  unfold isSg
  repeat' first | refine zzs ?_ | refine zzr hnt rfl ?_ ?_ | refine zzd hnt rfl ?_ ?_ | refine zzb ?_ | refine zzk ?_
  · exact zzt
  · exact zzt
  repeat' first | refine zzs ?_ | refine zzb ?_ | refine zzk ?_
  refine tr_loop (σ := Nat) (fun i => St.of [(0, .one (.e (eT t))), (5, .one (.own 5 0)), (6, .one (.e (eI 16))), (7, .one (.e (eI (i : Int))))] [(5, ⟨0, .row 1 (signs.map fun x => [eT x]), 0⟩)]) (fun i => ((signs.drop i).any fun x => decide (t = x)) = (signs.any fun x => decide (t = x)) ∧ i ≤ 16) (fun i => 16 - i) (0) (le_of (ad := []) ⟨zzl, zzl, zzl, zzl, trivial⟩ (memOk_row rfl rfl rfl trivial)) ⟨rfl, Nat.zero_le _⟩ ?_
  rintro i ⟨hi, il⟩
  repeat' first | refine zzs ?_ | refine zzr hnt rfl ?_ ?_ | refine zzd hnt rfl ?_ ?_ | refine zzb ?_ | refine zzk ?_
  · exact zzt
  repeat' first | refine zzs ?_ | refine zzb ?_ | refine zzk ?_
  refine tr_cond rfl (fun hc => ?_) (fun hc => ?_)
  · simp only [zz1, zz2, zz3, zz4, zz5, zz6, zz7, zz8] at hc
    have hlt : i < signs.length := by show i < 16; omega
    rw [drop_getD (d := []) hlt, List.any_cons] at hi
    have hg : (signs.map fun x => [eT x]).getD (Int.toNat (i : Int)) [] = [eT (signs.getD i [])] := by
      rw [Int.toNat_natCast, List.getD_eq_getElem?_getD, List.getElem?_map, List.getElem?_eq_getElem hlt, List.getD_eq_getElem?_getD, List.getElem?_eq_getElem hlt]
      rfl
    have h16 : (i : Int) < (16 : Nat) := by omega
    repeat' first | refine zzs ?_ | refine zzb ?_ | refine zzk ?_
    first | refine zzr hnt rfl ?_ ?_ | refine zzd hnt rfl ?_ ?_
    · rw [hg]
      exact zza
    rw [hg]
    generalize signs.getD i [] = x at *
    repeat' first | refine zzs ?_ | refine zzb ?_ | refine zzk ?_
    first | refine zzr hnt rfl ?_ ?_ | refine zzd hnt rfl ?_ ?_
    · exact zzt
    have ex : strEq (strB t) (strB x) = decide (t = x) := strEq_B t x
    repeat' first | refine zzs ?_ | refine zzb ?_ | refine zzk ?_
    refine tr_cond rfl (fun hc => ?_) (fun hc => ?_)
    · have hc := ex.symm.trans hc
      rw [hc, Bool.true_or] at hi
      rw [← hi]
      repeat' first | refine zzs ?_ | refine zzr hnt rfl ?_ ?_ | refine zzd hnt rfl ?_ ?_ | refine zzb ?_ | refine zzk ?_
      · exact zzt
      exact tr_ret ⟨.inr rfl, _, _, rfl, trivial, rfl⟩
    have hc := ex.symm.trans hc
    rw [hc, Bool.false_or] at hi
    repeat' first | refine zzs ?_ | refine zzr hnt rfl ?_ ?_ | refine zzd hnt rfl ?_ ?_ | refine zzb ?_ | refine zzk ?_
    · exact zzt
    refine ⟨i + 1, ⟨hi, by omega⟩, by omega, le_of (ad := []) ⟨zzl, zzl, zzl, zzl, trivial⟩ (memOk_row rfl rfl rfl trivial)⟩
  simp only [zz1, zz2, zz3, zz4, zz5, zz6, zz7, zz8] at hc
  refine tr_exit ?_
  rw [← hi, List.drop_eq_nil_of_le (by show 16 ≤ i; omega)]
  repeat' first | refine zzs ?_ | refine zzr hnt rfl ?_ ?_ | refine zzd hnt rfl ?_ ?_ | refine zzb ?_ | refine zzk ?_
  · exact zzt
  exact tr_ret ⟨.inr rfl, _, _, rfl, trivial, rfl⟩
end Go.Proofs.YtcdifgacoleckaaDoor
namespace Go.Proofs.YtcdifgacoleckaaDoor
open Go Go.RowKit Go.Proofs.YtcdifgacoleckaaDoor.Ab
set_option linter.unusedSimpArgs false
set_option linter.unusedVariables false

structure Tok where
  k : Int
  t : Byt
  i : Int
  b : BitVec 64
def eTok (v : Tok) : List E := [eI v.k, eT v.t, eI v.i, eQ v.b]
theorem eTok0 (v : Tok) : ((eTok v).getD (0 + 0) E.dflt).int = v.k := rfl
theorem eTok1 (v : Tok) : ((eTok v).getD (0 + 1) E.dflt).str = strB v.t := rfl
theorem eTok2 (v : Tok) : ((eTok v).getD (0 + 2) E.dflt).int = v.i := rfl
theorem eTok3 (v : Tok) : ((eTok v).getD (0 + 3) E.dflt).int = (v.b.toNat : Int) := rfl
def isNmP (s : Byt) : Bool := bif s.all nameB && decide (s.length ≠ 0) then smallB (s.getD 0 0) else false
def isWd (s : Byt) : Bool := s.all greatB && decide (s.length ≠ 0)
def okTk (v : Tok) : Bool := if v.k = 1 then isNmP v.t else if v.k = 2 then isWd v.t else if v.k = 3 then decide (0 ≤ v.i) else if v.k = 4 then vld v.t else if v.k = 5 then decide (chk ⟨3, 0, v.b, []⟩ = 0) else isSg v.t
def tkF (v : Tok) : Int :=
  if v.k < 1 ∨ 6 < v.k then 2
  else if (v.k = 4 ∧ 40 < v.t.length) ∨ ((v.k = 1 ∨ v.k = 2) ∧ 8 < v.t.length) then 1
  else if ((v.k ≠ 3 ∧ v.i ≠ 0) ∨ (v.k ≠ 5 ∧ v.b.toNat ≠ 0)) ∨ ((v.k = 3 ∨ v.k = 5) ∧ v.t.length ≠ 0) then 3
  else if okTk v = true then 0 else 3
set_option maxRecDepth 10000 in
set_option maxHeartbeats 2000000 in
theorem lexCheck_fn (v : Tok) (hm : v.t.length ≤ maxLen) : FnG Tryd.prog 48 gK [.agg (.es (eTok v))] (.one (.e (eI (tkF v)))) := by
  refine fn_introG (T := tab) tOk Tryd.func48 rfl (by kernel_rfl) (by simp [Tryd.ntmps48]) ?_
  intro X hX
  have hnt : X.nt = 112 := hX
  clear hX
  have hl : (strB v.t).size = v.t.length := strB_size v.t
  repeat' first | refine zzs ?_ | refine zzb ?_ | refine zzk ?_
  first | refine zzr hnt rfl ?_ ?_ | refine zzd hnt rfl ?_ ?_
  · exact zzt
  repeat' first | refine zzs ?_ | refine zzb ?_ | refine zzk ?_
  first | refine zzr hnt rfl ?_ ?_ | refine zzd hnt rfl ?_ ?_
  · exact zza
  repeat' first | refine zzs ?_ | refine zzb ?_ | refine zzk ?_
  refine tr_cond rfl (fun hc => ?_) (fun hc => ?_)
  · unfold tkF
    simp only [zz1, zz2, zz3, zz4, zz5, zz6, zz7, zz8] at hc
    (try simp only [eTok0] at hc)
    (try simp only [zz1, zz2, zz3, zz4, zz5, zz6, zz7, zz8] at hc)
    rw [if_pos (by omega)]
    repeat' first | refine zzs ?_ | refine zzr hnt rfl ?_ ?_ | refine zzd hnt rfl ?_ ?_ | refine zzb ?_ | refine zzk ?_
    · exact zzt
    exact tr_ret ⟨.inr rfl, _, _, rfl, trivial, rfl⟩
  simp only [zz1, zz2, zz3, zz4, zz5, zz6, zz7, zz8] at hc
  (try simp only [eTok0] at hc)
  (try simp only [zz1, zz2, zz3, zz4, zz5, zz6, zz7, zz8] at hc)
  have hk := hc
  repeat' first | refine zzs ?_ | refine zzr hnt rfl ?_ ?_ | refine zzd hnt rfl ?_ ?_ | refine zzb ?_ | refine zzk ?_
  · exact zzt
  repeat' first | refine zzs ?_ | refine zzb ?_ | refine zzk ?_
  refine tr_cond rfl (fun hc => ?_) (fun hc => ?_)
  · unfold tkF
    simp only [zz1, zz2, zz3, zz4, zz5, zz6, zz7, zz8] at hc
    (try simp only [eTok0, eTok1, hl] at hc)
    (try simp only [zz1, zz2, zz3, zz4, zz5, zz6, zz7, zz8] at hc)
    rw [if_neg (by omega)]
    rw [if_pos (by omega)]
    repeat' first | refine zzs ?_ | refine zzr hnt rfl ?_ ?_ | refine zzd hnt rfl ?_ ?_ | refine zzb ?_ | refine zzk ?_
    · exact zzt
    exact tr_ret ⟨.inr rfl, _, _, rfl, trivial, rfl⟩
  simp only [zz1, zz2, zz3, zz4, zz5, zz6, zz7, zz8] at hc
  (try simp only [eTok0, eTok1, hl] at hc)
  (try simp only [zz1, zz2, zz3, zz4, zz5, zz6, zz7, zz8] at hc)
  have hs := hc
  repeat' first | refine zzs ?_ | refine zzr hnt rfl ?_ ?_ | refine zzd hnt rfl ?_ ?_ | refine zzb ?_ | refine zzk ?_
  · exact zzt
  repeat' first | refine zzs ?_ | refine zzb ?_ | refine zzk ?_
  refine tr_cond rfl (fun hc => ?_) (fun hc => ?_)
  · unfold tkF
    simp only [zz1, zz2, zz3, zz4, zz5, zz6, zz7, zz8] at hc
    (try simp only [eTok0, eTok1, eTok2, eTok3, strEq_nil] at hc)
    (try simp only [zz1, zz2, zz3, zz4, zz5, zz6, zz7, zz8] at hc)
    rw [if_neg (by omega), if_neg (by omega)]
    rw [if_pos (by omega)]
    repeat' first | refine zzs ?_ | refine zzr hnt rfl ?_ ?_ | refine zzd hnt rfl ?_ ?_ | refine zzb ?_ | refine zzk ?_
    · exact zzt
    exact tr_ret ⟨.inr rfl, _, _, rfl, trivial, rfl⟩
  simp only [zz1, zz2, zz3, zz4, zz5, zz6, zz7, zz8] at hc
  (try simp only [eTok0, eTok1, eTok2, eTok3, strEq_nil] at hc)
  (try simp only [zz1, zz2, zz3, zz4, zz5, zz6, zz7, zz8] at hc)
  have h3 := hc
  have ht : tkF v = if okTk v = true then 0 else 3 := by
    unfold tkF
    rw [if_neg (by omega), if_neg (by omega), if_neg (by omega)]
  rw [ht]
  repeat' first | refine zzs ?_ | refine zzb ?_ | refine zzk ?_
  first | refine zzr hnt rfl ?_ ?_ | refine zzd hnt rfl ?_ ?_
  · exact zzt
  repeat' first | refine zzs ?_ | refine zzb ?_ | refine zzk ?_
  first | refine zzr hnt rfl ?_ ?_ | refine zzd hnt rfl ?_ ?_
  · exact zzt
  first | refine tr_join (σ := Unit) (fun x => St.of [(3, .v (.bool (okTk v)))] []) (fun x => True) ?_ ?_ | refine tr_seq (tr_join (σ := Unit) (fun x => St.of [(3, .v (.bool (okTk v)))] []) (fun x => True) ?_ ?_)
  · repeat' first | refine zzs ?_ | refine zzr hnt rfl ?_ ?_ | refine zzd hnt rfl ?_ ?_ | refine zzb ?_ | refine zzk ?_
    · exact zzt
    repeat' first | refine zzs ?_ | refine zzb ?_ | refine zzk ?_
    refine tr_cond rfl (fun hc => ?_) (fun hc => ?_)
    · simp only [zz1, zz2, zz3, zz4, zz5, zz6, zz7, zz8] at hc
      (try simp only [eTok0] at hc)
      (try simp only [zz1, zz2, zz3, zz4, zz5, zz6, zz7, zz8] at hc)
      have hf := all_fn v.t hm _ nameB inName_fn
      repeat' first | refine zzs ?_ | refine zzb ?_ | refine zzk ?_
      refine tr_region (zzx hnt rfl ?_ (call rfl rfl rfl rfl rfl rfl rfl hnt (hf) (zzx hnt rfl ?_ (callG rfl rfl rfl rfl rfl rfl hnt rfl (fun hq => ?_) (fun hq => small_fn (v.t.getD 0 0)) (zzx hnt rfl ?_ (Lex.nil _)))))) ?_
      · exact zzt
      · rw [eTok1, hl]
        exact zza
      · exact zza
      · exact zzt
      have e : okTk v = isNmP v.t := by unfold okTk; rw [if_pos hc]
      rw [e]
      repeat' first | refine zzs ?_ | refine zzb ?_ | refine zzk ?_
      refine ⟨(), trivial, le_of (ad := []) ⟨zzl, trivial⟩ trivial⟩
    simp only [zz1, zz2, zz3, zz4, zz5, zz6, zz7, zz8] at hc
    (try simp only [eTok0] at hc)
    (try simp only [zz1, zz2, zz3, zz4, zz5, zz6, zz7, zz8] at hc)
    have k1 := hc
    repeat' first | refine zzs ?_ | refine zzr hnt rfl ?_ ?_ | refine zzd hnt rfl ?_ ?_ | refine zzb ?_ | refine zzk ?_
    · exact zzt
    repeat' first | refine zzs ?_ | refine zzb ?_ | refine zzk ?_
    refine tr_cond rfl (fun hc => ?_) (fun hc => ?_)
    · simp only [zz1, zz2, zz3, zz4, zz5, zz6, zz7, zz8] at hc
      (try simp only [eTok0] at hc)
      (try simp only [zz1, zz2, zz3, zz4, zz5, zz6, zz7, zz8] at hc)
      repeat' first | refine zzs ?_ | refine zzb ?_ | refine zzk ?_
      refine tr_region (zzx hnt rfl ?_ (call rfl rfl rfl rfl rfl rfl rfl hnt (all_fn v.t hm _ greatB great_fn) (zzx hnt rfl ?_ (Lex.nil _)))) ?_
      · exact zzt
      · exact zzt
      have e : okTk v = isWd v.t := by unfold okTk; rw [if_neg k1, if_pos hc]
      rw [e]
      repeat' first | refine zzs ?_ | refine zzb ?_ | refine zzk ?_
      refine ⟨(), trivial, le_of (ad := []) ⟨zzl, trivial⟩ trivial⟩
    simp only [zz1, zz2, zz3, zz4, zz5, zz6, zz7, zz8] at hc
    (try simp only [eTok0] at hc)
    (try simp only [zz1, zz2, zz3, zz4, zz5, zz6, zz7, zz8] at hc)
    have k2 := hc
    repeat' first | refine zzs ?_ | refine zzr hnt rfl ?_ ?_ | refine zzd hnt rfl ?_ ?_ | refine zzb ?_ | refine zzk ?_
    · exact zzt
    repeat' first | refine zzs ?_ | refine zzb ?_ | refine zzk ?_
    refine tr_cond rfl (fun hc => ?_) (fun hc => ?_)
    · simp only [zz1, zz2, zz3, zz4, zz5, zz6, zz7, zz8] at hc
      (try simp only [eTok0] at hc)
      (try simp only [zz1, zz2, zz3, zz4, zz5, zz6, zz7, zz8] at hc)
      have e : okTk v = decide (0 ≤ v.i) := by unfold okTk; rw [if_neg k1, if_neg k2, if_pos hc]
      rw [e]
      repeat' first | refine zzs ?_ | refine zzr hnt rfl ?_ ?_ | refine zzd hnt rfl ?_ ?_ | refine zzb ?_ | refine zzk ?_
      · exact zzt
      repeat' first | refine zzs ?_ | refine zzb ?_ | refine zzk ?_
      refine ⟨(), trivial, le_of (ad := []) ⟨zzl, trivial⟩ trivial⟩
    simp only [zz1, zz2, zz3, zz4, zz5, zz6, zz7, zz8] at hc
    (try simp only [eTok0] at hc)
    (try simp only [zz1, zz2, zz3, zz4, zz5, zz6, zz7, zz8] at hc)
    have k3 := hc
    repeat' first | refine zzs ?_ | refine zzr hnt rfl ?_ ?_ | refine zzd hnt rfl ?_ ?_ | refine zzb ?_ | refine zzk ?_
    · exact zzt
    repeat' first | refine zzs ?_ | refine zzb ?_ | refine zzk ?_
    refine tr_cond rfl (fun hc => ?_) (fun hc => ?_)
    · simp only [zz1, zz2, zz3, zz4, zz5, zz6, zz7, zz8] at hc
      (try simp only [eTok0] at hc)
      (try simp only [zz1, zz2, zz3, zz4, zz5, zz6, zz7, zz8] at hc)
      have e : okTk v = vld v.t := by unfold okTk; rw [if_neg k1, if_neg k2, if_neg k3, if_pos hc]
      rw [e]
      repeat' first | refine zzs ?_ | refine zzb ?_ | refine zzk ?_
      refine tr_region (zzx hnt rfl ?_ (callV rfl rfl rfl rfl rfl rfl rfl hnt rfl (valid_fn v.t) (zzx hnt rfl ?_ (Lex.nil _)))) ?_
      · exact zzt
      · exact zzt
      repeat' first | refine zzs ?_ | refine zzb ?_ | refine zzk ?_
      refine ⟨(), trivial, le_of (ad := []) ⟨zzl, trivial⟩ trivial⟩
    simp only [zz1, zz2, zz3, zz4, zz5, zz6, zz7, zz8] at hc
    (try simp only [eTok0] at hc)
    (try simp only [zz1, zz2, zz3, zz4, zz5, zz6, zz7, zz8] at hc)
    have k4 := hc
    repeat' first | refine zzs ?_ | refine zzr hnt rfl ?_ ?_ | refine zzd hnt rfl ?_ ?_ | refine zzb ?_ | refine zzk ?_
    · exact zzt
    repeat' first | refine zzs ?_ | refine zzb ?_ | refine zzk ?_
    refine tr_cond rfl (fun hc => ?_) (fun hc => ?_)
    · simp only [zz1, zz2, zz3, zz4, zz5, zz6, zz7, zz8] at hc
      (try simp only [eTok0] at hc)
      (try simp only [zz1, zz2, zz3, zz4, zz5, zz6, zz7, zz8] at hc)
      have e : okTk v = decide (chk ⟨3, 0, v.b, []⟩ = 0) := by unfold okTk; rw [if_neg k1, if_neg k2, if_neg k3, if_neg k4, if_pos hc]
      rw [e]
      repeat' first | refine zzs ?_ | refine zzb ?_ | refine zzk ?_
      refine tr_region (zzx hnt rfl ?_ (callV rfl rfl rfl rfl rfl rfl rfl hnt rfl (check_fn ⟨3, 0, v.b, []⟩) (zzx hnt rfl ?_ (Lex.nil _)))) ?_
      · exact zzt
      · exact zzt
      repeat' first | refine zzs ?_ | refine zzb ?_ | refine zzk ?_
      refine ⟨(), trivial, le_of (ad := []) ⟨zzl, trivial⟩ trivial⟩
    simp only [zz1, zz2, zz3, zz4, zz5, zz6, zz7, zz8] at hc
    (try simp only [eTok0] at hc)
    (try simp only [zz1, zz2, zz3, zz4, zz5, zz6, zz7, zz8] at hc)
    have k5 := hc
    repeat' first | refine zzs ?_ | refine zzr hnt rfl ?_ ?_ | refine zzd hnt rfl ?_ ?_ | refine zzb ?_ | refine zzk ?_
    · exact zzt
    repeat' first | refine zzs ?_ | refine zzb ?_ | refine zzk ?_
    refine tr_cond rfl (fun hc => ?_) (fun hc => ?_)
    · simp only [zz1, zz2, zz3, zz4, zz5, zz6, zz7, zz8] at hc
      (try simp only [eTok0] at hc)
      (try simp only [zz1, zz2, zz3, zz4, zz5, zz6, zz7, zz8] at hc)
      have e : okTk v = isSg v.t := by unfold okTk; rw [if_neg k1, if_neg k2, if_neg k3, if_neg k4, if_neg k5]
      rw [e]
      repeat' first | refine zzs ?_ | refine zzb ?_ | refine zzk ?_
      refine tr_region (zzx hnt rfl ?_ (call rfl rfl rfl rfl rfl rfl rfl hnt (sign0_fn v.t) (zzx hnt rfl ?_ (Lex.nil _)))) ?_
      · exact zzt
      · exact zzt
      repeat' first | refine zzs ?_ | refine zzb ?_ | refine zzk ?_
      refine ⟨(), trivial, le_of (ad := []) ⟨zzl, trivial⟩ trivial⟩
    simp only [zz1, zz2, zz3, zz4, zz5, zz6, zz7, zz8] at hc
    (try simp only [eTok0] at hc)
    (try simp only [zz1, zz2, zz3, zz4, zz5, zz6, zz7, zz8] at hc)
    exact absurd hk (by omega)
  rintro _ _
  repeat' first | refine zzs ?_ | refine zzr hnt rfl ?_ ?_ | refine zzd hnt rfl ?_ ?_ | refine zzb ?_ | refine zzk ?_
  · exact zzt
  generalize okTk v = o
  cases o with
  | true =>
    refine tr_cond rfl (fun h => nomatch (show false = true from h)) (fun _ => ?_)
    repeat' first | refine zzs ?_ | refine zzr hnt rfl ?_ ?_ | refine zzd hnt rfl ?_ ?_ | refine zzb ?_ | refine zzk ?_
    · exact zzt
    exact tr_ret ⟨.inr rfl, _, _, rfl, trivial, rfl⟩
  | false =>
    refine tr_cond rfl (fun _ => ?_) (fun h => nomatch (show true = false from h))
    repeat' first | refine zzs ?_ | refine zzr hnt rfl ?_ ?_ | refine zzd hnt rfl ?_ ?_ | refine zzb ?_ | refine zzk ?_
    · exact zzt
    exact tr_ret ⟨.inr rfl, _, _, rfl, trivial, rfl⟩
end Go.Proofs.YtcdifgacoleckaaDoor
namespace Go.Proofs.YtcdifgacoleckaaDoor
open Go Go.RowKit Go.Proofs.YtcdifgacoleckaaDoor.Ab
set_option linter.unusedSimpArgs false
set_option linter.unusedVariables false

def U0 (v : Tok) : Tok := ⟨v.k, if v.k = 3 ∨ v.k = 5 then [] else v.t, if v.k = 3 then v.i else 0, if v.k = 5 then v.b else 0⟩
def lngB (v : Tok) : Bool := decide ((v.k = 4 ∧ 40 < v.t.length) ∨ ((v.k = 1 ∨ v.k = 2) ∧ 8 < v.t.length))
theorem eqT1 (v w : Tok) : (eqD tab 9 60 (.agg (.es (List.take 4 (List.drop 0 (eTok v))))) (.agg (.es (List.take 4 (List.drop 0 (eTok w)))))).1 :=
  ⟨⟨Nat.le_of_ble_eq_true rfl, rfl⟩, ⟨Nat.le_of_ble_eq_true rfl, rfl⟩, rfl, ⟨Nat.le_of_ble_eq_true rfl, rfl⟩, ⟨Nat.le_of_ble_eq_true rfl, rfl⟩, trivial, ⟨Nat.le_of_ble_eq_true rfl, rfl⟩, ⟨Nat.le_of_ble_eq_true rfl, rfl⟩, rfl, ⟨Nat.le_of_ble_eq_true rfl, rfl⟩, ⟨Nat.le_of_ble_eq_true rfl, rfl⟩, rfl, trivial⟩
theorem eqT2 (v w : Tok) : (eqD tab 9 60 (.agg (.es (List.take 4 (List.drop 0 (eTok v))))) (.agg (.es (List.take 4 (List.drop 0 (eTok w)))))).2 = decide (v.k = w.k ∧ v.t = w.t ∧ v.i = w.i ∧ v.b.toNat = w.b.toNat) := by
  show (v.k == w.k && (strEq (strB v.t) (strB w.t) && (v.i == w.i && ((v.b.toNat : Int) == (w.b.toNat : Int) && true)))) = _
  rw [strEq_B, Bool.eq_iff_iff]
  simp
  omega
theorem isNm_eq (s : Byt) : isNm s = isNmP s := by
  unfold isNm isNmP
  cases decide (s.length ≠ 0) <;> cases s.all nameB <;> cases smallB (s.getD 0 0) <;> rfl
theorem chk_real0 (b : BitVec 64) : decide (chk ⟨3, 0, b, []⟩ = 0) = !badQ b := by
  unfold chk
  rw [badR_eq]
  cases h : badQ b <;> simp
theorem tk_pure {v : Tok} (h1 : 1 ≤ v.k) (h6 : v.k ≤ 6) : tkF v = if lngB v = true then 1 else if (bif !okTk v then true else !decide (v.k = (U0 v).k ∧ v.t = (U0 v).t ∧ v.i = (U0 v).i ∧ v.b.toNat = (U0 v).b.toNat)) = true then 3 else 0 := by
  unfold tkF lngB
  rw [if_neg (by omega)]
  simp only [zz1, zz2, zz3, zz4, zz5, zz6, zz7, zz8]
  by_cases hl : (v.k = 4 ∧ 40 < v.t.length) ∨ ((v.k = 1 ∨ v.k = 2) ∧ 8 < v.t.length)
  · rw [if_pos hl, if_pos hl]
  · rw [if_neg hl, if_neg hl]
    have hu : (v.k = (U0 v).k ∧ v.t = (U0 v).t ∧ v.i = (U0 v).i ∧ v.b.toNat = (U0 v).b.toNat) ↔ ¬ (((v.k ≠ 3 ∧ v.i ≠ 0) ∨ (v.k ≠ 5 ∧ v.b.toNat ≠ 0)) ∨ ((v.k = 3 ∨ v.k = 5) ∧ v.t.length ≠ 0)) := by
      have hn : v.t = [] ↔ v.t.length = 0 := List.length_eq_zero_iff.symm
      have hz : (0 : BitVec 64).toNat = 0 := rfl
      unfold U0
      dsimp only
      by_cases k3 : v.k = 3
      · rw [if_pos (.inl k3), if_pos k3, if_neg (by omega), hz, hn]
        omega
      · by_cases k5 : v.k = 5
        · rw [if_pos (.inr k5), if_neg k3, if_pos k5, hn]
          omega
        · rw [if_neg (by omega), if_neg k3, if_neg k5, hz, eq_self v.t, true_and]
          omega
    by_cases hx : ((v.k ≠ 3 ∧ v.i ≠ 0) ∨ (v.k ≠ 5 ∧ v.b.toNat ≠ 0)) ∨ ((v.k = 3 ∨ v.k = 5) ∧ v.t.length ≠ 0)
    · rw [if_pos hx, if_pos (.inr (fun h => hu.1 h hx))]
    · rw [if_neg hx]
      cases ho : okTk v with
      | true => rw [if_pos rfl, if_neg]; rintro (h | h); cases h; exact h (hu.2 hx)
      | false => rw [if_neg Bool.false_ne_true, if_pos (.inl rfl)]
set_option maxRecDepth 10000 in
set_option maxHeartbeats 2000000 in
theorem tokenFault_fn (v : Tok) (hm : v.t.length ≤ maxLen) : FnG Tryd.prog 46 gK [.agg (.es (eTok v))] (.one (.e (eI (tkF v)))) := by
  refine fn_introG (T := tab) tOk Tryd.func46 rfl (by kernel_rfl) (by simp [Tryd.ntmps46]) ?_
  intro X hX
  have hnt : X.nt = 84 := hX
  clear hX
  have hl : (strB v.t).size = v.t.length := strB_size v.t
  repeat' first | refine zzs ?_ | refine zzb ?_ | refine zzk ?_
  first | refine zzr hnt rfl ?_ ?_ | refine zzd hnt rfl ?_ ?_
  · exact zzt
  repeat' first | refine zzs ?_ | refine zzb ?_ | refine zzk ?_
  first | refine zzr hnt rfl ?_ ?_ | refine zzd hnt rfl ?_ ?_
  · exact zzt
  repeat' first | refine zzs ?_ | refine zzb ?_ | refine zzk ?_
  first | refine zzr hnt rfl ?_ ?_ | refine zzd hnt rfl ?_ ?_
  · exact zzt
  repeat' first | refine zzs ?_ | refine zzb ?_ | refine zzk ?_
  first | refine zzr hnt rfl ?_ ?_ | refine zzd hnt rfl ?_ ?_
  · exact zzt
  repeat' first | refine zzs ?_ | refine zzb ?_ | refine zzk ?_
  first | refine zzr hnt rfl ?_ ?_ | refine zzd hnt rfl ?_ ?_
  · exact zzt
  first | refine tr_join (σ := Bool × Bool) (fun x => St.of [(1, .one (.ptr 1 0 0)), (3, .v (.bool x.1)), (4, .one (.ptr 4 0 0)), (5, .v (.bool x.2)), ((1000000 + 3), .one (.eptr fsE)), ((1000000 + 4), .one (.eptr acE))] [(1, ⟨0, .box (.es (eTok v)), 0⟩), (4, ⟨0, .box (.es (eTok (U0 v))), 0⟩)]) (fun x => (1 ≤ v.k ∧ v.k ≤ 6) ∧ x.1 = lngB v ∧ x.2 = okTk v) ?_ ?_ | refine tr_seq (tr_join (σ := Bool × Bool) (fun x => St.of [(1, .one (.ptr 1 0 0)), (3, .v (.bool x.1)), (4, .one (.ptr 4 0 0)), (5, .v (.bool x.2)), ((1000000 + 3), .one (.eptr fsE)), ((1000000 + 4), .one (.eptr acE))] [(1, ⟨0, .box (.es (eTok v)), 0⟩), (4, ⟨0, .box (.es (eTok (U0 v))), 0⟩)]) (fun x => (1 ≤ v.k ∧ v.k ≤ 6) ∧ x.1 = lngB v ∧ x.2 = okTk v) ?_ ?_)
  · repeat' first | refine zzs ?_ | refine zzr hnt rfl ?_ ?_ | refine zzd hnt rfl ?_ ?_ | refine zzb ?_ | refine zzk ?_
    · exact zzt
    repeat' first | refine zzs ?_ | refine zzb ?_ | refine zzk ?_
    refine tr_cond rfl (fun hc => ?_) (fun hc => ?_)
    · simp only [zz1, zz2, zz3, zz4, zz5, zz6, zz7, zz8] at hc
      (try simp only [eTok0] at hc)
      (try simp only [zz1, zz2, zz3, zz4, zz5, zz6, zz7, zz8] at hc)
      have w0 : U0 v = ⟨v.k, v.t, 0, 0⟩ := by unfold U0; rw [if_neg (by omega), if_neg (by omega), if_neg (by omega)]
      have hlg : lngB v = decide ((8 : Int) < (v.t.length : Int)) := by unfold lngB; rw [Bool.eq_iff_iff, decide_eq_true_eq, decide_eq_true_eq]; omega
      have hok : okTk v = isNm v.t := by unfold okTk; rw [if_pos hc, isNm_eq]
      have hk := hc
      repeat' first | refine zzs ?_ | refine zzb ?_ | refine zzk ?_
      refine tr_cond rfl (fun hc => ?_) (fun hc => ?_)
      · repeat' first | refine zzs ?_ | refine zzb ?_ | refine zzk ?_
        first | refine zzr hnt rfl ?_ ?_ | refine zzd hnt rfl ?_ ?_
        · exact zzt
        repeat' first | refine zzs ?_ | refine zzb ?_ | refine zzk ?_
        first | refine zzr hnt rfl ?_ ?_ | refine zzd hnt rfl ?_ ?_
        · exact zzt
        repeat' first | refine zzs ?_ | refine zzb ?_ | refine zzk ?_
        refine tr_region (zzx hnt rfl ?_ (call rfl rfl rfl rfl rfl rfl rfl hnt (isName_fn v.t hm) (zzx hnt rfl ?_ (Lex.nil _)))) ?_
        · exact zzt
        · exact zzt
        repeat' first | refine zzs ?_ | refine zzb ?_ | refine zzk ?_
        first | refine zzr hnt rfl ?_ ?_ | refine zzd hnt rfl ?_ ?_
        · exact zzt
        repeat' first | refine zzs ?_ | refine zzb ?_ | refine zzk ?_
        refine tr_cond rfl (fun hc => ?_) (fun hc => ?_)
        · simp only [zz1, zz2, zz3, zz4, zz5, zz6, zz7, zz8] at hc
          (try simp only [eTok0] at hc)
          (try simp only [zz1, zz2, zz3, zz4, zz5, zz6, zz7, zz8] at hc)
          omega
        repeat' first | refine zzs ?_ | refine zzb ?_ | refine zzk ?_
        rw [eTok1, hl]
        refine ⟨(lngB v, okTk v), ⟨by omega, rfl, rfl⟩, le_of (ad := []) ⟨⟨rfl, rfl, rfl, rfl, rfl⟩, ?_, ⟨rfl, rfl, rfl, rfl, rfl⟩, ?_, rfl, rfl, trivial⟩ (memOk_box rfl rfl rfl (memOk_box rfl rfl (by rw [w0]; rfl) trivial))⟩
        · exact congrArg (fun z : Bool => E.v (.bool z)) (by first | (rw [hlg]; done) | (rw [hlg]; rfl))
        · exact congrArg (fun z : Bool => E.v (.bool z)) (by first | (rw [hok]; done) | (rw [hok]; rfl))
      simp only [zz1, zz2, zz3, zz4, zz5, zz6, zz7, zz8] at hc
      (try simp only [eTok0] at hc)
      (try simp only [zz1, zz2, zz3, zz4, zz5, zz6, zz7, zz8] at hc)
      exact absurd hk hc
    simp only [zz1, zz2, zz3, zz4, zz5, zz6, zz7, zz8] at hc
    (try simp only [eTok0] at hc)
    (try simp only [zz1, zz2, zz3, zz4, zz5, zz6, zz7, zz8] at hc)
    have k1 := hc
    repeat' first | refine zzs ?_ | refine zzr hnt rfl ?_ ?_ | refine zzd hnt rfl ?_ ?_ | refine zzb ?_ | refine zzk ?_
    · exact zzt
    repeat' first | refine zzs ?_ | refine zzb ?_ | refine zzk ?_
    refine tr_cond rfl (fun hc => ?_) (fun hc => ?_)
    · simp only [zz1, zz2, zz3, zz4, zz5, zz6, zz7, zz8] at hc
      (try simp only [eTok0] at hc)
      (try simp only [zz1, zz2, zz3, zz4, zz5, zz6, zz7, zz8] at hc)
      have w0 : U0 v = ⟨v.k, v.t, 0, 0⟩ := by unfold U0; rw [if_neg (by omega), if_neg (by omega), if_neg (by omega)]
      have hlg : lngB v = decide ((8 : Int) < (v.t.length : Int)) := by unfold lngB; rw [Bool.eq_iff_iff, decide_eq_true_eq, decide_eq_true_eq]; omega
      have hok : okTk v = (bif !decide (v.t.length = 0) then v.t.all greatB else false) := by
        unfold okTk isWd
        rw [if_neg k1, if_pos hc]
        by_cases hz : v.t.length = 0
        · simp [hz]
        · simp [hz]
      repeat' first | refine zzs ?_ | refine zzb ?_ | refine zzk ?_
      first | refine zzr hnt rfl ?_ ?_ | refine zzd hnt rfl ?_ ?_
      · exact zzt
      repeat' first | refine zzs ?_ | refine zzb ?_ | refine zzk ?_
      first | refine zzr hnt rfl ?_ ?_ | refine zzd hnt rfl ?_ ?_
      · exact zzt
      repeat' first | refine zzs ?_ | refine zzb ?_ | refine zzk ?_
      refine tr_region (zzx hnt rfl ?_ (call rfl rfl rfl rfl rfl rfl rfl hnt (isName_fn v.t hm) (zzx hnt rfl ?_ (Lex.nil _)))) ?_
      · exact zzt
      · exact zzt
      repeat' first | refine zzs ?_ | refine zzb ?_ | refine zzk ?_
      first | refine zzr hnt rfl ?_ ?_ | refine zzd hnt rfl ?_ ?_
      · exact zzt
      repeat' first | refine zzs ?_ | refine zzb ?_ | refine zzk ?_
      refine tr_cond rfl (fun hc => ?_) (fun hc => ?_)
      · repeat' first | refine zzs ?_ | refine zzb ?_ | refine zzk ?_
        refine tr_draw (T := tab) tOk hnt mixedR (lexD (T := tab) rfl ?_ (callGD rfl rfl rfl rfl rfl rfl rfl rfl (fun hq => ?_) (fun hq => reach_fn v.t greats hm (by decide)) (lexD (T := tab) rfl ?_ (.nil _)))) (by decide +kernel) ?_
        · exact zza
        · exact zzt
        · exact zza
        repeat' first | refine zzs ?_ | refine zzb ?_ | refine zzk ?_
        rw [eTok1, hl, strEq_nil, rchF_all, show amg greats = greatB from funext amg_great]
        refine ⟨(lngB v, okTk v), ⟨by omega, rfl, rfl⟩, le_of (ad := []) ⟨⟨rfl, rfl, rfl, rfl, rfl⟩, ?_, ⟨rfl, rfl, rfl, rfl, rfl⟩, ?_, rfl, rfl, trivial⟩ (memOk_box rfl rfl rfl (memOk_box rfl rfl (by rw [w0]; rfl) trivial))⟩
        · exact congrArg (fun z : Bool => E.v (.bool z)) (by first | (rw [hlg]; done) | (rw [hlg]; rfl))
        · exact congrArg (fun z : Bool => E.v (.bool z)) (by first | (rw [hok]; done) | (rw [hok]; rfl))
      simp only [zz1, zz2, zz3, zz4, zz5, zz6, zz7, zz8] at hc
      (try simp only [eTok0] at hc)
      (try simp only [zz1, zz2, zz3, zz4, zz5, zz6, zz7, zz8] at hc)
      omega
    simp only [zz1, zz2, zz3, zz4, zz5, zz6, zz7, zz8] at hc
    (try simp only [eTok0] at hc)
    (try simp only [zz1, zz2, zz3, zz4, zz5, zz6, zz7, zz8] at hc)
    have k2 := hc
    repeat' first | refine zzs ?_ | refine zzr hnt rfl ?_ ?_ | refine zzd hnt rfl ?_ ?_ | refine zzb ?_ | refine zzk ?_
    · exact zzt
    repeat' first | refine zzs ?_ | refine zzb ?_ | refine zzk ?_
    refine tr_cond rfl (fun hc => ?_) (fun hc => ?_)
    · simp only [zz1, zz2, zz3, zz4, zz5, zz6, zz7, zz8] at hc
      (try simp only [eTok0] at hc)
      (try simp only [zz1, zz2, zz3, zz4, zz5, zz6, zz7, zz8] at hc)
      have w0 : U0 v = ⟨v.k, [], v.i, 0⟩ := by unfold U0; rw [if_pos (by omega), if_pos hc, if_neg (by omega)]
      have hlg : lngB v = false := by unfold lngB; exact decide_eq_false (by omega)
      have hok : okTk v = decide (0 ≤ v.i) := by unfold okTk; rw [if_neg k1, if_neg k2, if_pos hc]
      repeat' first | refine zzs ?_ | refine zzb ?_ | refine zzk ?_
      first | refine zzr hnt rfl ?_ ?_ | refine zzd hnt rfl ?_ ?_
      · exact zzt
      repeat' first | refine zzs ?_ | refine zzb ?_ | refine zzk ?_
      first | refine zzr hnt rfl ?_ ?_ | refine zzd hnt rfl ?_ ?_
      · exact zzt
      repeat' first | refine zzs ?_ | refine zzb ?_ | refine zzk ?_
      refine ⟨(lngB v, okTk v), ⟨by omega, rfl, rfl⟩, le_of (ad := []) ⟨⟨rfl, rfl, rfl, rfl, rfl⟩, ?_, ⟨rfl, rfl, rfl, rfl, rfl⟩, ?_, rfl, rfl, trivial⟩ (memOk_box rfl rfl rfl (memOk_box rfl rfl (by rw [w0]; rfl) trivial))⟩
      · exact congrArg (fun z : Bool => E.v (.bool z)) (by first | (rw [hlg]; done) | (rw [hlg]; rfl))
      · exact congrArg (fun z : Bool => E.v (.bool z)) (by first | (rw [hok]; done) | (rw [hok]; rfl))
    simp only [zz1, zz2, zz3, zz4, zz5, zz6, zz7, zz8] at hc
    (try simp only [eTok0] at hc)
    (try simp only [zz1, zz2, zz3, zz4, zz5, zz6, zz7, zz8] at hc)
    have k3 := hc
    repeat' first | refine zzs ?_ | refine zzr hnt rfl ?_ ?_ | refine zzd hnt rfl ?_ ?_ | refine zzb ?_ | refine zzk ?_
    · exact zzt
    repeat' first | refine zzs ?_ | refine zzb ?_ | refine zzk ?_
    refine tr_cond rfl (fun hc => ?_) (fun hc => ?_)
    · simp only [zz1, zz2, zz3, zz4, zz5, zz6, zz7, zz8] at hc
      (try simp only [eTok0] at hc)
      (try simp only [zz1, zz2, zz3, zz4, zz5, zz6, zz7, zz8] at hc)
      have w0 : U0 v = ⟨v.k, v.t, 0, 0⟩ := by unfold U0; rw [if_neg (by omega), if_neg (by omega), if_neg (by omega)]
      have hlg : lngB v = decide ((40 : Int) < (v.t.length : Int)) := by unfold lngB; rw [Bool.eq_iff_iff, decide_eq_true_eq, decide_eq_true_eq]; omega
      have hok : okTk v = vld v.t := by unfold okTk; rw [if_neg k1, if_neg k2, if_neg k3, if_pos hc]
      repeat' first | refine zzs ?_ | refine zzb ?_ | refine zzk ?_
      first | refine zzr hnt rfl ?_ ?_ | refine zzd hnt rfl ?_ ?_
      · exact zzt
      repeat' first | refine zzs ?_ | refine zzb ?_ | refine zzk ?_
      first | refine zzr hnt rfl ?_ ?_ | refine zzd hnt rfl ?_ ?_
      · exact zzt
      repeat' first | refine zzs ?_ | refine zzb ?_ | refine zzk ?_
      refine tr_region (zzx hnt rfl ?_ (callV rfl rfl rfl rfl rfl rfl rfl hnt rfl (valid_fn v.t) (zzx hnt rfl ?_ (Lex.nil _)))) ?_
      · exact zzt
      · exact zzt
      repeat' first | refine zzs ?_ | refine zzb ?_ | refine zzk ?_
      rw [eTok1, hl]
      refine ⟨(lngB v, okTk v), ⟨by omega, rfl, rfl⟩, le_of (ad := []) ⟨⟨rfl, rfl, rfl, rfl, rfl⟩, ?_, ⟨rfl, rfl, rfl, rfl, rfl⟩, ?_, rfl, rfl, trivial⟩ (memOk_box rfl rfl rfl (memOk_box rfl rfl (by rw [w0]; rfl) trivial))⟩
      · exact congrArg (fun z : Bool => E.v (.bool z)) (by first | (rw [hlg]; done) | (rw [hlg]; rfl))
      · exact congrArg (fun z : Bool => E.v (.bool z)) (by first | (rw [hok]; done) | (rw [hok]; rfl))
    simp only [zz1, zz2, zz3, zz4, zz5, zz6, zz7, zz8] at hc
    (try simp only [eTok0] at hc)
    (try simp only [zz1, zz2, zz3, zz4, zz5, zz6, zz7, zz8] at hc)
    have k4 := hc
    repeat' first | refine zzs ?_ | refine zzr hnt rfl ?_ ?_ | refine zzd hnt rfl ?_ ?_ | refine zzb ?_ | refine zzk ?_
    · exact zzt
    repeat' first | refine zzs ?_ | refine zzb ?_ | refine zzk ?_
    refine tr_cond rfl (fun hc => ?_) (fun hc => ?_)
    · simp only [zz1, zz2, zz3, zz4, zz5, zz6, zz7, zz8] at hc
      (try simp only [eTok0] at hc)
      (try simp only [zz1, zz2, zz3, zz4, zz5, zz6, zz7, zz8] at hc)
      have w0 : U0 v = ⟨v.k, [], 0, v.b⟩ := by unfold U0; rw [if_pos (by omega), if_neg k3, if_pos hc]
      have hlg : lngB v = false := by unfold lngB; exact decide_eq_false (by omega)
      have hok : okTk v = !badQ v.b := by unfold okTk; rw [if_neg k1, if_neg k2, if_neg k3, if_neg k4, if_pos hc, chk_real0]
      repeat' first | refine zzs ?_ | refine zzb ?_ | refine zzk ?_
      first | refine zzr hnt rfl ?_ ?_ | refine zzd hnt rfl ?_ ?_
      · exact zzt
      repeat' first | refine zzs ?_ | refine zzb ?_ | refine zzk ?_
      refine tr_region (zzx hnt rfl ?_ (call rfl rfl rfl rfl rfl rfl rfl hnt (badReal_fn v.b) (zzx hnt rfl ?_ (Lex.nil _)))) ?_
      · exact zzt
      · exact zzt
      repeat' first | refine zzs ?_ | refine zzb ?_ | refine zzk ?_
      refine ⟨(lngB v, okTk v), ⟨by omega, rfl, rfl⟩, le_of (ad := []) ⟨⟨rfl, rfl, rfl, rfl, rfl⟩, ?_, ⟨rfl, rfl, rfl, rfl, rfl⟩, ?_, rfl, rfl, trivial⟩ (memOk_box rfl rfl rfl (memOk_box rfl rfl (by rw [w0]; rfl) trivial))⟩
      · exact congrArg (fun z : Bool => E.v (.bool z)) (by first | (rw [hlg]; done) | (rw [hlg]; rfl))
      · exact congrArg (fun z : Bool => E.v (.bool z)) (by first | (rw [hok]; done) | (rw [hok]; rfl))
    simp only [zz1, zz2, zz3, zz4, zz5, zz6, zz7, zz8] at hc
    (try simp only [eTok0] at hc)
    (try simp only [zz1, zz2, zz3, zz4, zz5, zz6, zz7, zz8] at hc)
    have k5 := hc
    repeat' first | refine zzs ?_ | refine zzr hnt rfl ?_ ?_ | refine zzd hnt rfl ?_ ?_ | refine zzb ?_ | refine zzk ?_
    · exact zzt
    repeat' first | refine zzs ?_ | refine zzb ?_ | refine zzk ?_
    refine tr_cond rfl (fun hc => ?_) (fun hc => ?_)
    · simp only [zz1, zz2, zz3, zz4, zz5, zz6, zz7, zz8] at hc
      (try simp only [eTok0] at hc)
      (try simp only [zz1, zz2, zz3, zz4, zz5, zz6, zz7, zz8] at hc)
      have w0 : U0 v = ⟨v.k, v.t, 0, 0⟩ := by unfold U0; rw [if_neg (by omega), if_neg (by omega), if_neg (by omega)]
      have hlg : lngB v = false := by unfold lngB; exact decide_eq_false (by omega)
      have hok : okTk v = isSg v.t := by unfold okTk; rw [if_neg k1, if_neg k2, if_neg k3, if_neg k4, if_neg k5]
      repeat' first | refine zzs ?_ | refine zzb ?_ | refine zzk ?_
      first | refine zzr hnt rfl ?_ ?_ | refine zzd hnt rfl ?_ ?_
      · exact zzt
      repeat' first | refine zzs ?_ | refine zzb ?_ | refine zzk ?_
      refine tr_region (zzx hnt rfl ?_ (call rfl rfl rfl rfl rfl rfl rfl hnt (isSign_fn v.t) (zzx hnt rfl ?_ (Lex.nil _)))) ?_
      · exact zzt
      · exact zzt
      repeat' first | refine zzs ?_ | refine zzb ?_ | refine zzk ?_
      refine ⟨(lngB v, okTk v), ⟨by omega, rfl, rfl⟩, le_of (ad := []) ⟨⟨rfl, rfl, rfl, rfl, rfl⟩, ?_, ⟨rfl, rfl, rfl, rfl, rfl⟩, ?_, rfl, rfl, trivial⟩ (memOk_box rfl rfl rfl (memOk_box rfl rfl (by rw [w0]; rfl) trivial))⟩
      · exact congrArg (fun z : Bool => E.v (.bool z)) (by first | (rw [hlg]; done) | (rw [hlg]; rfl))
      · exact congrArg (fun z : Bool => E.v (.bool z)) (by first | (rw [hok]; done) | (rw [hok]; rfl))
    simp only [zz1, zz2, zz3, zz4, zz5, zz6, zz7, zz8] at hc
    (try simp only [eTok0] at hc)
    (try simp only [zz1, zz2, zz3, zz4, zz5, zz6, zz7, zz8] at hc)
    have ht : tkF v = 2 := by unfold tkF; rw [if_pos (by omega)]
    rw [ht]
    repeat' first | refine zzs ?_ | refine zzr hnt rfl ?_ ?_ | refine zzd hnt rfl ?_ ?_ | refine zzb ?_ | refine zzk ?_
    · exact zzt
    exact tr_ret ⟨.inr rfl, _, _, rfl, trivial, rfl⟩
  rintro ⟨lg, ok⟩ ⟨⟨h1, h6⟩, e1, e2⟩
  dsimp only at e1 e2 ⊢
  rw [tk_pure h1 h6, ← e1, ← e2]
  repeat' first | refine zzs ?_ | refine zzr hnt rfl ?_ ?_ | refine zzd hnt rfl ?_ ?_ | refine zzb ?_ | refine zzk ?_
  · exact zzt
  cases lg with
  | true =>
    refine tr_cond rfl (fun _ => ?_) (fun h => nomatch (show true = false from h))
    repeat' first | refine zzs ?_ | refine zzr hnt rfl ?_ ?_ | refine zzd hnt rfl ?_ ?_ | refine zzb ?_ | refine zzk ?_
    · exact zzt
    exact tr_ret ⟨.inr rfl, _, _, rfl, trivial, rfl⟩
  | false =>
  refine tr_cond rfl (fun h => nomatch (show false = true from h)) (fun _ => ?_)
  rw [if_neg Bool.false_ne_true]
  have q1 := eqT1 v (U0 v)
  repeat' first | refine zzs ?_ | refine zzb ?_ | refine zzk ?_
  first | refine zzr hnt rfl ?_ ?_ | refine zzd hnt rfl ?_ ?_
  · exact zza
  rw [eqT2]
  repeat' first | refine zzs ?_ | refine zzb ?_ | refine zzk ?_
  refine tr_cond rfl (fun hc => ?_) (fun hc => ?_)
  · rw [if_pos hc]
    repeat' first | refine zzs ?_ | refine zzr hnt rfl ?_ ?_ | refine zzd hnt rfl ?_ ?_ | refine zzb ?_ | refine zzk ?_
    · exact zzt
    exact tr_ret ⟨.inr rfl, _, _, rfl, trivial, rfl⟩
  rw [if_neg (by rw [hc]; exact Bool.false_ne_true)]
  repeat' first | refine zzs ?_ | refine zzr hnt rfl ?_ ?_ | refine zzd hnt rfl ?_ ?_ | refine zzb ?_ | refine zzk ?_
  · exact zzt
  exact tr_ret ⟨.inr rfl, _, _, rfl, trivial, rfl⟩
end Go.Proofs.YtcdifgacoleckaaDoor
