/- Trees: what a good tree has. No condition. -/
import Derived.Test.YtphaholcndhonaaDoorRZB
namespace Go.Proofs.YtphaholcndhonaaDoor.Tr
open Go Go.RowKit Go.Proofs.YtphaholcndhonaaDoor.Ab
set_option linter.unusedSimpArgs false
set_option linter.unusedVariables false

/-- all pairs of a tree, in order -/
def tp (t : List Nd) : Prs := if t.length = 0 then [] else prF t t.length 0
theorem zI_sum : ∀ n, (zI n).sum = 0
  | 0 => rfl
  | n + 1 => by
    show (0 :: zI n).sum = 0
    rw [List.sum_cons, zI_sum n]
    rfl
theorem good_gT (t : List Nd) (h : chkF t = 0) : gT t := by
  unfold chkF at h
  split at h
  · cases h
  split at h
  · cases h
  split at h
  · rename_i hl hc dp e
    obtain ⟨_, _, hg⟩ := stA_inv t t.length 0 (zI t.length) dp (Nat.zero_add _) ⟨List.length_replicate, fun q hq => by
      rw [zI_get]
      have : cK t 0 q = 0 := rfl
      rw [this]
      simp⟩ (fun q _ => Nat.zero_le _) e
    exact ⟨by omega, fun i hi => not_bad (hg i (Nat.zero_le _) hi).1, fun i hi => (hg i (Nat.zero_le _) hi).2⟩
  · cases h
theorem good_prs (t : List Nd) (h : chkF t = 0) : prsF t = (tp t, 0) ∧ (tp t).length ≤ 300 ∧ k60 (tp t) ∧ lsA (tp t) ((tp t).length - 1) 1 true = true := by
  rw [chk_law] at h
  unfold prsF at h ⊢
  unfold tp
  split at h
  · cases h
  rename_i hl
  rw [if_neg hl]
  split at h
  · cases h
  rename_i hr
  rw [if_neg hr]
  split at h
  · rename_i h0
    rw [if_pos h0, if_pos h0]
    exact ⟨rfl, Nat.zero_le _, (fun p hp => nomatch hp), rfl⟩
  rename_i h0
  rw [if_neg h0, if_neg h0]
  split at h
  · cases h
  rename_i hls
  rw [if_neg hls]
  have hok : (inF t t.length 0 (zI t.length)).1.2.2 = true := by
    cases hv : (inF t t.length 0 (zI t.length)).1.2.2 with
    | true => rfl
    | false =>
      refine absurd ?_ hls
      have o1 : oneA (inF t t.length 0 (zI t.length)).2 t.length 0 false = false := by
        cases hw : oneA (inF t t.length 0 (zI t.length)).2 t.length 0 false with
        | false => rfl
        | true => exact absurd ((oneA_iff _ _ _ _).1 hw).1 (by decide)
      rw [hv, o1, lsA_false]
  have hpr := inF_prs t t.length 0 (zI t.length) hok
  have hz1 : s01 (zI t.length) := fun q => by rw [zI_get]; decide
  obtain ⟨k1, k2, _⟩ := (inF_ok t t.length 0 (zI t.length)).ok hok List.length_replicate hz1
  have k3 := s01_sum _ k1
  rw [inF_len, zI_sum] at *
  have k4 : (zI t.length).length = t.length := List.length_replicate
  have hrt : rmA t t.length 0 100 = true := by
    cases hv : rmA t t.length 0 100 with
    | true => rfl
    | false => exact absurd hv hr
  have k60' := inF_60 t (fun i hi j hj => (rmA_ok t t.length 0 100 (by decide) hrt i (Nat.zero_le _) (by omega)).2 j hj) t.length 0 (zI t.length)
  have hl1 : oneA (inF t t.length 0 (zI t.length)).2 t.length 0 (inF t t.length 0 (zI t.length)).1.2.2 = true := by
    cases hv : oneA (inF t t.length 0 (zI t.length)).2 t.length 0 (inF t t.length 0 (zI t.length)).1.2.2 with
    | true => rfl
    | false => rw [hv, lsA_false] at hls; exact absurd rfl hls
  rw [hl1] at hls
  rw [hpr] at hls k2 k60' ⊢
  refine ⟨rfl, by omega, k60', ?_⟩
  cases hv : lsA (prF t t.length 0) ((prF t t.length 0).length - 1) 1 true with
  | true => rfl
  | false => exact absurd hv hls
theorem bad_prs (t : List Nd) (h : chkF t ≠ 0) : prsF t = ([], chkF t) := by
  rw [chk_law] at h ⊢
  unfold prsF at h ⊢
  split
  · rfl
  rename_i hl
  rw [if_neg hl] at h
  split
  · rfl
  rename_i hr
  rw [if_neg hr] at h
  split
  · rfl
  rename_i h0
  rw [if_neg h0] at h
  split
  · rfl
  rename_i hls
  rw [if_neg hls] at h
  exact absurd rfl h
end Go.Proofs.YtphaholcndhonaaDoor.Tr
namespace Go.Proofs.YtphaholcndhonaaDoor.Tr
open Go Go.RowKit Go.Proofs.YtphaholcndhonaaDoor.Ab
set_option linter.unusedSimpArgs false
set_option linter.unusedVariables false

theorem cmpT_self : ∀ x : Byt, cmpT x x = 0
  | [] => rfl
  | a :: x => by rw [cmpT_cons, if_pos rfl]; exact cmpT_self x
theorem cmpT_eq {x y : Byt} (h : cmpT x y = 0) : x = y := by
  unfold cmpT at h
  split at h
  · cases h
  split at h
  · assumption
  · cases h
theorem cmpT_sw : ∀ x y : Byt, cmpT y x = - cmpT x y
  | [], y => by rw [cmpT_nil, cmpT_nil']; unfold cmpI; split <;> split <;> (try split) <;> omega
  | a :: x, [] => by rw [cmpT_nil, cmpT_nil']; unfold cmpI; split <;> split <;> (try split) <;> omega
  | a :: x, b :: y => by
    rw [cmpT_cons, cmpT_cons]
    by_cases h : a = b
    · subst h
      rw [if_pos rfl, if_pos rfl]
      exact cmpT_sw x y
    · have hn : a.toNat ≠ b.toNat := fun e => h (UInt8.toNat_inj.1 e)
      rw [if_neg h, if_neg (fun e => h e.symm)]
      split <;> split <;> omega
theorem cmpT_tr : ∀ x y z : Byt, cmpT x y < 0 → cmpT y z < 0 → cmpT x z < 0
  | [], [], z, h, _ => absurd h (by decide)
  | [], b :: y, [], _, h => by
    rw [cmpT_nil'] at h
    unfold cmpI at h
    rw [if_neg (by rw [List.length_cons]; omega), if_pos (by rw [List.length_cons]; omega)] at h
    exact absurd h (by decide)
  | [], b :: y, c :: z, _, _ => by
    rw [cmpT_nil]
    unfold cmpI
    rw [if_pos (by rw [List.length_cons]; omega)]
    decide
  | a :: x, [], z, h, _ => by
    rw [cmpT_nil'] at h
    unfold cmpI at h
    rw [if_neg (by rw [List.length_cons]; omega), if_pos (by rw [List.length_cons]; omega)] at h
    exact absurd h (by decide)
  | a :: x, b :: y, [], _, h => by
    rw [cmpT_nil'] at h
    unfold cmpI at h
    rw [if_neg (by rw [List.length_cons]; omega), if_pos (by rw [List.length_cons]; omega)] at h
    exact absurd h (by decide)
  | a :: x, b :: y, c :: z, h1, h2 => by
    rw [cmpT_cons] at h1 h2 ⊢
    by_cases e1 : a = b
    · subst e1
      rw [if_pos rfl] at h1
      by_cases e2 : a = c
      · subst e2
        rw [if_pos rfl] at h2 ⊢
        exact cmpT_tr x y z h1 h2
      · rw [if_neg e2] at h2 ⊢
        exact h2
    · rw [if_neg e1] at h1
      split at h1
      · rename_i hl
        by_cases e2 : b = c
        · subst e2
          rw [if_neg e1, if_pos hl]
          decide
        · rw [if_neg e2] at h2
          split at h2
          · rw [if_neg (fun e => by subst e; omega), if_pos (by omega)]
            decide
          · exact absurd h2 (by decide)
      · exact absurd h1 (by decide)
/-- in order -/
def srt (l : Prs) : Prop := l.Pairwise fun p q => cmpT p.1 q.1 < 0
theorem lsA_adj (l : Prs) : ∀ (k j : Nat) (b : Bool), lsA l k j b = true → b = true ∧ ∀ q, j ≤ q → q < j + k → cmpT (l.getD (q - 1) pr0).1 (l.getD q pr0).1 < 0
  | 0, j, b, h => ⟨h, fun q h1 h2 => absurd h2 (by omega)⟩
  | k + 1, j, b, h => by
    rw [lsA] at h
    obtain ⟨h1, h2⟩ := lsA_adj l k (j + 1) _ h
    cases b with
    | false => cases h1
    | true =>
      refine ⟨rfl, fun q h3 h4 => ?_⟩
      by_cases e : q = j
      · subst e; exact of_decide_eq_true h1
      · exact h2 q (by omega) (by omega)
theorem srt_adj : ∀ l : Prs, (∀ q, 1 ≤ q → q < l.length → cmpT (l.getD (q - 1) pr0).1 (l.getD q pr0).1 < 0) → srt l
  | [], _ => List.Pairwise.nil
  | [p], _ => List.pairwise_singleton ..
  | p :: q :: l, h => by
    have ih := srt_adj (q :: l) fun i h1 h2 => by
      have := h (i + 1) (by omega) (by rw [List.length_cons]; omega)
      obtain ⟨j, rfl⟩ : ∃ j, i = j + 1 := ⟨i - 1, by omega⟩
      exact this
    have h0 : cmpT p.1 q.1 < 0 := h 1 (Nat.le_refl _) (by rw [List.length_cons, List.length_cons]; omega)
    refine List.Pairwise.cons (fun r hr => ?_) ih
    rcases List.mem_cons.1 hr with rfl | hr
    · exact h0
    · exact cmpT_tr _ _ _ h0 ((List.pairwise_cons.1 ih).1 r hr)
theorem tp_srt (t : List Nd) (h : chkF t = 0) : srt (tp t) := by
  obtain ⟨_, _, _, h1⟩ := good_prs t h
  refine srt_adj _ fun q h2 h3 => (lsA_adj _ _ _ _ h1).2 q h2 (by omega)
/-- where a key is among keys -/
def skF (l : List Byt) (key : Byt) : Nat → Nat → Nat × Bool
  | 0, j => (j, false)
  | r + 1, j => if cmpT key (l.getD j []) ≤ 0 then (j, decide (cmpT key (l.getD j []) = 0)) else skF l key r (j + 1)
theorem skF_of (l : List Byt) (key : Byt) : ∀ (r j : Nat), j ≤ (skF l key r j).1 ∧ (skF l key r j).1 ≤ j + r ∧ (∀ q, j ≤ q → q < (skF l key r j).1 → 0 < cmpT key (l.getD q [])) ∧ ((skF l key r j).2 = true → (skF l key r j).1 < j + r ∧ cmpT key (l.getD (skF l key r j).1 []) = 0) ∧
    ((skF l key r j).2 = false → (skF l key r j).1 < j + r → cmpT key (l.getD (skF l key r j).1 []) < 0)
  | 0, j => ⟨Nat.le_refl _, Nat.le_refl _, fun q h1 h2 => absurd h2 (by show ¬ q < j; omega), (fun h => nomatch h), fun _ h => absurd h (Nat.lt_irrefl _)⟩
  | r + 1, j => by
    rw [skF]
    split
    · rename_i h
      refine ⟨Nat.le_refl _, by dsimp only; omega, fun q h1 h2 => absurd h2 (by dsimp only; omega), fun h1 => ⟨by dsimp only; omega, of_decide_eq_true h1⟩, fun h1 _ => ?_⟩
      have := of_decide_eq_false h1
      dsimp only
      omega
    · rename_i h
      obtain ⟨k1, k2, k3, k4, k5⟩ := skF_of l key r (j + 1)
      refine ⟨by omega, by omega, fun q h1 h2 => ?_, fun h1 => ?_, fun h1 h2 => ?_⟩
      · by_cases e : q = j
        · subst e; omega
        · exact k3 q (by omega) h2
      · have := k4 h1
        exact ⟨by omega, this.2⟩
      · exact k5 h1 (by omega)
/-- what a key has -/
def fnF (t : List Nd) (key : Byt) : Nat → Nat → Option Int
  | 0, _ => none
  | f + 1, i => if (skF (t.getD i nd0).k key (t.getD i nd0).k.length 0).2 = true then some ((t.getD i nd0).v.getD (skF (t.getD i nd0).k key (t.getD i nd0).k.length 0).1 0) else
    if (t.getD i nd0).c.length = 0 then none else fnF t key f ((t.getD i nd0).c.getD (skF (t.getD i nd0).k key (t.getD i nd0).k.length 0).1 0).toNat
def fdP (key : Byt) (l : Prs) : Option Int := (l.find? fun p => decide (p.1 = key)).map (·.2)
theorem fdP_no {key : Byt} {l : Prs} (h : ∀ p ∈ l, p.1 ≠ key) : fdP key l = none := by
  unfold fdP
  rw [List.find?_eq_none.2 fun p hp => by simpa using h p hp]
  rfl
theorem fdP_l {key : Byt} {l : Prs} (h : ∀ p ∈ l, p.1 ≠ key) (r : Prs) : fdP key (l ++ r) = fdP key r := by
  unfold fdP
  rw [List.find?_append, List.find?_eq_none.2 fun p hp => by simpa using h p hp]
  rfl
theorem fdP_r {key : Byt} {r : Prs} (h : ∀ p ∈ r, p.1 ≠ key) (l : Prs) : fdP key (l ++ r) = fdP key l := by
  unfold fdP
  rw [List.find?_append, (List.find?_eq_none (l := r)).2 fun p hp => by simpa using h p hp, Option.or_none]
theorem prP_pre (t : List Nd) (p : Nat → Prs) (n : Nd) {j : Nat} : ∀ {m : Nat}, j ≤ m → ∃ R, prP t p n m = prP t p n j ++ R := fun {m} h => by
  induction h with
  | refl => exact ⟨[], (List.append_nil _).symm⟩
  | step _ ih =>
    obtain ⟨R, hR⟩ := ih
    exact ⟨R ++ prS t p n _, by rw [prP_succ, hR, List.append_assoc]⟩
theorem prP_lt (t : List Nd) (p : Nat → Prs) (n : Nd) (key : Byt) : ∀ j, srt (prP t p n j) → (∀ q, q < j → 0 < cmpT key (n.k.getD q [])) → ∀ x ∈ prP t p n j, cmpT x.1 key < 0
  | 0, _, _, x, hx => nomatch hx
  | j + 1, hs, h, x, hx => by
    rw [prP_succ] at hs hx
    obtain ⟨s1, s2, _⟩ := List.pairwise_append.1 hs
    rcases List.mem_append.1 hx with hx | hx
    · exact prP_lt t p n key j s1 (fun q hq => h q (by omega)) x hx
    · have hj := h j (Nat.lt_succ_self _)
      have hj2 := cmpT_sw key (n.k.getD j [])
      unfold prS at s2 hx
      rcases List.mem_append.1 hx with hx | hx
      · obtain ⟨_, _, s3⟩ := List.pairwise_append.1 s2
        have := s3 x hx _ (List.mem_singleton.2 rfl)
        exact cmpT_tr _ _ _ this (show cmpT (n.k.getD j []) key < 0 by omega)
      · obtain rfl := List.mem_singleton.1 hx
        show cmpT (n.k.getD j []) key < 0
        omega
theorem cmpT_ne {x y : Byt} (h : cmpT x y < 0) : x ≠ y := fun e => by rw [e, cmpT_self] at h; exact absurd h (by decide)
theorem fnF_prs (t : List Nd) (key : Byt) : ∀ (f i : Nat), srt (prF t f i) → fnF t key f i = fdP key (prF t f i)
  | 0, i, _ => rfl
  | f + 1, i, hs => by
    have ih := fnF_prs t key f
    rw [fnF]
    rw [prF] at hs ⊢
    generalize t.getD i nd0 = n at *
    obtain ⟨k1, k2, k3, k4, k5⟩ := skF_of n.k key n.k.length 0
    generalize skF n.k key n.k.length 0 = s at *
    obtain ⟨at_, th⟩ := s
    dsimp only at *
    obtain ⟨R, hR⟩ := prP_pre t (prF t f) n (show at_ ≤ n.k.length by omega)
    have s1 := (List.pairwise_append.1 hs).1
    have hlt := prP_lt t (prF t f) n key at_ (by rw [hR] at s1; exact (List.pairwise_append.1 s1).1) (fun q hq => k3 q (Nat.zero_le _) hq)
    have hlt : ∀ x ∈ prP t (prF t f) n at_, x.1 ≠ key := fun x hx => cmpT_ne (hlt x hx)
    by_cases ha : at_ < n.k.length
    · obtain ⟨R2, hR2⟩ := prP_pre t (prF t f) n (show at_ + 1 ≤ n.k.length by omega)
      rw [prP_succ] at hR2
      rw [hR2, List.append_assoc, List.append_assoc, fdP_l hlt]
      rw [hR2, List.append_assoc, List.append_assoc] at hs
      have s2 := (List.pairwise_append.1 hs).2.1
      unfold prS at s2 ⊢
      rw [List.append_assoc] at s2 ⊢
      obtain ⟨t1, t2, t3⟩ := List.pairwise_append.1 s2
      have t4 := (List.pairwise_cons.1 t2).1
      cases th with
      | true =>
        rw [if_pos rfl]
        have e := cmpT_eq (k4 rfl).2
        rw [fdP_l fun x hx => by
          have := t3 x hx _ (List.mem_cons_self ..)
          rw [e]
          exact cmpT_ne this]
        unfold fdP
        rw [List.singleton_append, List.find?_cons_of_pos (by simp [e])]
        rfl
      | false =>
        rw [if_neg (by decide)]
        have hk := k5 rfl (by omega)
        have hno : ∀ x ∈ [(n.k.getD at_ [], n.v.getD at_ 0)] ++ (R2 ++ (if n.c.length = 0 then [] else prF t f (n.c.getD n.k.length 0).toNat)), x.1 ≠ key := fun x hx => by
          rw [List.singleton_append] at hx
          rcases List.mem_cons.1 hx with rfl | hx
          · exact fun e => cmpT_ne hk e.symm
          · exact fun e => cmpT_ne (cmpT_tr _ _ _ hk (t4 x hx)) e.symm
        rw [fdP_r hno]
        by_cases h0 : n.c.length = 0
        · rw [if_pos h0, if_pos h0]; rfl
        · rw [if_neg h0] at t1
          rw [if_neg h0, if_neg h0]
          exact ih _ t1
    · obtain rfl : at_ = n.k.length := by omega
      have hth : th = false := by
        cases th with
        | false => rfl
        | true => exact absurd (k4 rfl).1 (by omega)
      subst hth
      rw [if_neg (by decide), fdP_l hlt]
      by_cases h0 : n.c.length = 0
      · rw [if_pos h0, if_pos h0]; rfl
      · rw [if_neg h0] at hs ⊢
        rw [if_neg h0]
        exact ih _ (List.pairwise_append.1 hs).2.1
end Go.Proofs.YtphaholcndhonaaDoor.Tr
namespace Go.Proofs.YtphaholcndhonaaDoor.Tr
open Go Go.RowKit Go.Proofs.YtphaholcndhonaaDoor.Ab
set_option linter.unusedSimpArgs false
set_option linter.unusedVariables false

theorem strEq_B2 (x y : Byt) : strEq (strB x) (strB y) = decide (x = y) := by
  unfold strEq
  rw [ByteArray.toList_eq, ByteArray.toList_eq, strB_list, strB_list]
  by_cases h : x = y <;> simp [h]
theorem strLe_cmp (x y : Byt) : (strLt (strB x) (strB y) || strEq (strB x) (strB y)) = decide (cmpT x y ≤ 0) := by
  rw [strLt_cmp]
  have e : strEq (strB x) (strB y) = decide (cmpT x y = 0) := by
    rw [strEq_B2]
    by_cases h : x = y
    · subst h
      rw [cmpT_self]
      simp
    · have h2 : cmpT x y ≠ 0 := fun e => h (cmpT_eq e)
      simp [h, h2]
  rw [e]
  by_cases h1 : cmpT x y < 0
  · simp [h1, show cmpT x y ≤ 0 by omega]
  · by_cases h2 : cmpT x y = 0
    · simp [h2]
    · simp [h1, h2, show ¬ cmpT x y ≤ 0 by omega]
def lsP (fr to : Byt) (p : Byt × Int) : Bool := bif decide (cmpT fr p.1 ≤ 0) then decide (cmpT p.1 to ≤ 0) else false
def foL (fr to : Byt) (S l : Prs) : Prs := S ++ l.filter (lsP fr to)
theorem foL_app (fr to : Byt) (S l r : Prs) : foL fr to S (l ++ r) = foL fr to (foL fr to S l) r := by unfold foL; rw [List.filter_append, List.append_assoc]
theorem foL_len (fr to : Byt) (S l : Prs) : (foL fr to S l).length ≤ S.length + l.length := by
  unfold foL
  rw [List.length_append]
  have := List.length_filter_le (lsP fr to) l
  omega
def msL (fr to : Byt) (out : Prs) : List (Nat × Blk) := [(900000, ⟨0, .box (.es [eKy fr]), 0⟩), (900001, ⟨0, .box (.es [eKy to]), 0⟩), (900002, ⟨0, .box (.ds [.own 900003 0]), 0⟩), (900003, ⟨0, .row 2 (out.map ePr), 0⟩)]
set_option maxRecDepth 10000 in
set_option maxHeartbeats 2000000 in
theorem list1_fn (fr to : Byt) (out : Prs) (k : Byt) (v : Int) (ho : out.length ≤ 300) : FnH Tryd.prog 129 [] (msL fr to out) [.one (.e (eKy k)), .one (.e (eI v)), .one (.ptr 900000 0 0), .one (.ptr 900001 0 0), .one (.ptr 900002 0 0)] (.tup []) (msL fr to (foL fr to out [(k, v)])) := by
  refine fn_introH (T := tab) tOk Tryd.func129 rfl (by kernel_rfl) (by simp [Tryd.ntmps129]) rfl rfl ?_
  intro X hX
  have hnt : X.nt = 21 := hX
  clear hX
  have h1 := strLe_cmp fr k
  have h2 := strLe_cmp k to
  have hol : (out.map ePr).length ≤ 300 := by rw [List.length_map]; exact ho
  repeat' (first | refine tr_seq ?_ | refine tr_block ?_ | refine tr_skip ?_)
  first | refine reg (T := tab) tOk hnt rfl ?_ ?_ | refine regD (T := tab) tOk mixedR hnt rfl (by decide +kernel) ?_ ?_
  · (dsimp only [AllP]; (repeat' first | exact trivial | assumption | exact Nat.le_of_ble_eq_true rfl | apply And.intro | exact eCells_len1 _ _ ‹_› | exact eCells_isByte _ _ ‹_› | (intro hh_; have hg_ := hh_; (try simp only [condT_ff, condF_tt, notE_t, notE_f, Bool.and_eq_true, ne_eq, decide_eq_true_eq, decide_eq_false_iff_not] at hg_)) | intro _ | exact rfl | omega))
    all_goals trace_state
  repeat' (first | refine tr_seq ?_ | refine tr_block ?_ | refine tr_skip ?_)
  refine tr_cond rfl (fun hc => ?_) (fun hc => ?_)
  · have hcb : lsP fr to (k, v) = true := by
      unfold lsP
      rw [← h1, ← h2]
      exact hc
    have hr : foL fr to out [(k, v)] = out ++ [(k, v)] := by
      unfold foL
      rw [List.filter_cons_of_pos hcb]
      rfl
    rw [hr]
    have hm : (out ++ [(k, v)]).map ePr = out.map ePr ++ [ePr (k, v)] := by rw [List.map_append]; rfl
    repeat' (first | refine tr_seq ?_ | refine tr_block ?_ | refine tr_skip ?_)
    first | refine reg (T := tab) tOk hnt rfl ?_ ?_ | refine regD (T := tab) tOk mixedR hnt rfl (by decide +kernel) ?_ ?_
    · (dsimp only [AllP]; (repeat' first | exact trivial | assumption | exact Nat.le_of_ble_eq_true rfl | apply And.intro | exact eCells_len1 _ _ ‹_› | exact eCells_isByte _ _ ‹_› | (intro hh_; have hg_ := hh_; (try simp only [condT_ff, condF_tt, notE_t, notE_f, Bool.and_eq_true, ne_eq, decide_eq_true_eq, decide_eq_false_iff_not] at hg_)) | intro _ | exact rfl | omega | exact Nat.le_trans (Nat.add_le_add_right hol 1) (by decide) | exact Nat.le_trans (Nat.mul_le_mul_right _ (Nat.add_le_add_right hol 1)) (by decide) | exact Nat.le_trans (Nat.add_le_add_left hol 0) (by decide) | exact Nat.le_trans (Nat.mul_le_mul_right _ (Nat.add_le_add_left hol 0)) (by decide)))
      all_goals trace_state
    refine ⟨.inl rfl, _, _, _, rfl, trivial, rfl, fun X => le_of (ad := []) ⟨trivial, ⟨rfl, rfl, rfl, rfl, rfl⟩, ⟨rfl, rfl, rfl, rfl, rfl⟩, ⟨rfl, rfl, rfl, rfl, rfl⟩, trivial⟩ (memOk_box rfl rfl rfl (memOk_box rfl rfl rfl (memOk_box rfl rfl ⟨⟨rfl, rfl, rfl, rfl⟩, trivial⟩ (memOk_row rfl rfl hm.symm trivial))))⟩
  have hcb : ¬ lsP fr to (k, v) = true := by
    unfold lsP
    rw [← h1, ← h2]
    intro h
    have h := h.symm.trans hc
    cases h
  have hr : foL fr to out [(k, v)] = out := by
    unfold foL
    rw [List.filter_cons_of_neg hcb, List.filter_nil, List.append_nil]
  rw [hr]
  repeat' (first | refine tr_seq ?_ | refine tr_block ?_ | refine tr_skip ?_)
  refine ⟨.inl rfl, _, _, _, rfl, trivial, rfl, fun X => le_of (ad := []) ⟨trivial, ⟨rfl, rfl, rfl, rfl, rfl⟩, ⟨rfl, rfl, rfl, rfl, rfl⟩, ⟨rfl, rfl, rfl, rfl, rfl⟩, trivial⟩ (memOk_box rfl rfl rfl (memOk_box rfl rfl rfl (memOk_box rfl rfl ⟨⟨rfl, rfl, rfl, rfl⟩, trivial⟩ (memOk_row rfl rfl rfl trivial))))⟩
end Go.Proofs.YtphaholcndhonaaDoor.Tr
namespace Go.Proofs.YtphaholcndhonaaDoor.Tr
open Go Go.RowKit Go.Proofs.YtphaholcndhonaaDoor.Ab
set_option linter.unusedSimpArgs false
set_option linter.unusedVariables false

abbrev cloL : D := .one (.clo 129 [(900000, 0, 0), (900001, 0, 0), (900002, 0, 0)])
set_option maxRecDepth 10000 in
set_option maxHeartbeats 2000000 in
theorem eachL_step (fr to : Byt) (t : List Nd) (g : gT t) (f : Nat) (ih : ∀ i s, i < t.length → t.length ≤ f + i → s.length + (prF t f i).length ≤ 300 → FnH Tryd.prog 127 [] (msL fr to s) [.one (.e (.pt (ndE t f i))), cloL] (.tup []) (msL fr to (foL fr to s (prF t f i)))) (i : Nat) (s0 : Prs) (hi : i < t.length) (hf : t.length ≤ f + 1 + i) (hb : s0.length + (prF t (f + 1) i).length ≤ 300) : FnH Tryd.prog 127 [] (msL fr to s0) [.one (.e (.pt (ndE t (f + 1) i))), cloL] (.tup []) (msL fr to (foL fr to s0 (prF t (f + 1) i))) := by
  refine fn_introH (T := tab) tOk Tryd.func127 rfl (by kernel_rfl) (by simp [Tryd.ntmps127]) rfl rfl ?_
  intro X hX
  have hnt : X.nt = 63 := hX
  clear hX
  obtain ⟨s1, s2, s3, s4⟩ := g.sh i hi
  have hkd := g.kd i hi
  unfold kdN at hkd
  have hE : ndE t (f + 1) i = [.sl (eKs (t.getD i nd0).k), .sl (eIs (t.getD i nd0).v), .sl ((t.getD i nd0).c.map fun k => [.pt (ndE t f k.toNat)])] := rfl
  have hP : prF t (f + 1) i = prP t (prF t f) (t.getD i nd0) (t.getD i nd0).k.length ++ (if (t.getD i nd0).c.length = 0 then [] else prF t f ((t.getD i nd0).c.getD (t.getD i nd0).k.length 0).toNat) := rfl
  rw [hP, List.length_append] at hb
  rw [hE, hP]
  clear hE hP
  generalize hn : t.getD i nd0 = n at *
  have hcl : n.c.length ≤ 4 := by rcases s4 with s4 | s4 <;> simp [s4] <;> omega
  have hkl := ksLen n.k
  have hvl := isLen n.v
  let ND : List E := [.sl (eKs n.k), .sl (eIs n.v), .sl (n.c.map fun k => [.pt (ndE t f k.toNat)])]
  have hpl : ((List.drop 2 ND).getD 0 E.dflt).xs.length = n.c.length := List.length_map ..
  have hvl2 : ((List.drop 1 ND).getD 0 E.dflt).xs.length = n.v.length := List.length_map ..
  have hpg : ∀ j, j < n.c.length → ((List.drop 2 ND).getD 0 E.dflt).xs.getD j [] = [.pt (ndE t f (n.c.getD j 0).toNat)] := fun j h => csGet n.c (ndE t f) h
  have hvg : ∀ j, j < n.v.length → ((List.drop 1 ND).getD 0 E.dflt).xs.getD j [] = [eI (n.v.getD j 0)] := fun j h => isGet n.v h
  dsimp only [ND] at hpl hvl2 hpg hvg
  repeat' (first | refine tr_seq ?_ | refine tr_block ?_ | refine tr_skip ?_)
  first | refine reg (T := tab) tOk hnt rfl ?_ ?_ | refine regD (T := tab) tOk mixedR hnt rfl (by decide +kernel) ?_ ?_
  · (dsimp only [AllP]; (repeat' first | exact trivial | assumption | exact Nat.le_of_ble_eq_true rfl | apply And.intro | exact eCells_len1 _ _ ‹_› | exact eCells_isByte _ _ ‹_› | (intro hh_; have hg_ := hh_; (try simp only [condT_ff, condF_tt, notE_t, notE_f, Bool.and_eq_true, ne_eq, decide_eq_true_eq, decide_eq_false_iff_not] at hg_)) | intro _ | exact rfl | omega))
    all_goals trace_state
  repeat' (first | refine tr_seq ?_ | refine tr_block ?_ | refine tr_skip ?_)
  refine tr_cond rfl (fun hc => ?_) (fun hc => ?_)
  · exact absurd hc (by decide)
  repeat' (first | refine tr_seq ?_ | refine tr_block ?_ | refine tr_skip ?_)
  first | refine reg (T := tab) tOk hnt rfl ?_ ?_ | refine regD (T := tab) tOk mixedR hnt rfl (by decide +kernel) ?_ ?_
  · (dsimp only [AllP]; (repeat' first | exact trivial | assumption | exact Nat.le_of_ble_eq_true rfl | apply And.intro | exact eCells_len1 _ _ ‹_› | exact eCells_isByte _ _ ‹_› | (intro hh_; have hg_ := hh_; (try simp only [condT_ff, condF_tt, notE_t, notE_f, Bool.and_eq_true, ne_eq, decide_eq_true_eq, decide_eq_false_iff_not] at hg_)) | intro _ | exact rfl | omega))
    all_goals trace_state
  repeat' (first | refine tr_seq ?_ | refine tr_block ?_ | refine tr_skip ?_)
  refine tr_loop (σ := Nat) (fun j => St.of [(0, .one (.e (.pt [.sl (eKs n.k), .sl (eIs n.v), .sl (n.c.map fun k => [.pt (ndE t f k.toNat)])]))), (1, cloL), (11, .one (.e (.sl (eKs n.k)))), (12, .one (.e (eI (((eKs n.k).length : Nat) : Int)))), (13, .one (.e (eI (j : Int)))), (900000, .one (.ptr 900000 0 0)), (900001, .one (.ptr 900001 0 0)), (900002, .one (.ptr 900002 0 0))] [(900000, ⟨0, .box (.es [eKy fr]), 0⟩), (900001, ⟨0, .box (.es [eKy to]), 0⟩), (900002, ⟨0, .box (.ds [.own 900003 0]), 0⟩), (900003, ⟨0, .row 2 ((foL fr to s0 (prP t (prF t f) n j)).map ePr), 0⟩)]) (fun j => j ≤ n.k.length) (fun j => n.k.length - j) (0) (le_of (ad := []) (by refine ⟨?_, ?_, ?_, ?_, ?_, ?_, ?_, ?_, trivial⟩ <;> first | exact trivial | rfl | exact ⟨rfl, rfl⟩ | exact ⟨rfl, rfl, rfl⟩ | exact ⟨rfl, rfl, rfl, rfl⟩ | exact ⟨rfl, rfl, rfl, rfl, rfl⟩ | exact congrArg (fun z : Int => E.v (.int .i64 z)) (wrap64_id (by omega) (by omega)) | exact congrArg (fun z : Int => E.v (.int .u8 z)) (by assumption) | exact congrArg (fun z : ByteArray => E.v (.string z)) (by assumption) | (refine ⟨rfl, ?_⟩; repeat' first | exact trivial | rfl | apply And.intro)) (memOk_box rfl rfl rfl (memOk_box rfl rfl rfl (memOk_box rfl rfl ⟨⟨rfl, rfl, rfl, rfl⟩, trivial⟩ (memOk_row rfl rfl (congrArg (List.map ePr) (show s0 = foL fr to s0 (prP t (prF t f) n 0) from (List.append_nil s0).symm)) trivial))))) (Nat.zero_le _) ?_
  · rintro j jl
    have hps := prP_succ t (prF t f) n j
    have hfs : foL fr to s0 (prP t (prF t f) n (j + 1)) = foL fr to (foL fr to s0 (prP t (prF t f) n j)) (prS t (prF t f) n j) := by rw [hps, foL_app]
    have hbS : (foL fr to s0 (prP t (prF t f) n j)).length ≤ s0.length + (prP t (prF t f) n j).length := foL_len ..
    generalize hSj : foL fr to s0 (prP t (prF t f) n j) = S at *
    repeat' (first | refine tr_seq ?_ | refine reg (T := tab) tOk hnt rfl ?_ ?_ | refine regD (T := tab) tOk mixedR hnt rfl (by decide +kernel) ?_ ?_ | refine tr_block ?_ | refine tr_skip ?_)
    · (dsimp only [AllP]; (repeat' first | exact trivial | assumption | exact Nat.le_of_ble_eq_true rfl | apply And.intro | decide | intro _ | exact rfl))
    repeat' (first | refine tr_seq ?_ | refine tr_block ?_ | refine tr_skip ?_)
    refine tr_cond rfl (fun hc => ?_) (fun hc => ?_)
    · simp only [condT_tt, condT_ff, condF_tt, condF_ff, notE_t, notE_f, decide_eq_true_eq, decide_eq_false_iff_not] at hc
      (try simp only [hkl] at hc)
      (try simp only [condT_tt, condT_ff, condF_tt, condF_ff, notE_t, notE_f, decide_eq_true_eq, decide_eq_false_iff_not] at hc)
      have hlt : j < n.k.length := by omega
      have hkg := ksGet n.k hlt
      have hb2 : (prP t (prF t f) n j).length + (prS t (prF t f) n j).length ≤ (prP t (prF t f) n n.k.length).length := by
        obtain ⟨R, hR⟩ := prP_pre t (prF t f) n (show j + 1 ≤ n.k.length by omega)
        rw [hR, hps, List.length_append, List.length_append]
        omega
      have hpS : (prS t (prF t f) n j).length = (if n.c.length = 0 then [] else prF t f (n.c.getD j 0).toNat).length + 1 := by
        unfold prS
        rw [List.length_append]
        rfl
      have hvg := hvg j (by omega)
      generalize hky : n.k.getD j [] = ky at *
      generalize hvx : n.v.getD j 0 = vl at *
      repeat' (first | refine tr_seq ?_ | refine tr_block ?_ | refine tr_skip ?_)
      first | refine reg (T := tab) tOk hnt rfl ?_ ?_ | refine regD (T := tab) tOk mixedR hnt rfl (by decide +kernel) ?_ ?_
      · rw [Int.toNat_natCast, hkg]
        (dsimp only [AllP]; (repeat' first | exact trivial | assumption | exact Nat.le_of_ble_eq_true rfl | apply And.intro | exact eCells_len1 _ _ ‹_› | exact eCells_isByte _ _ ‹_› | (intro hh_; have hg_ := hh_; (try simp only [condT_ff, condF_tt, notE_t, notE_f, Bool.and_eq_true, ne_eq, decide_eq_true_eq, decide_eq_false_iff_not] at hg_)) | intro _ | exact rfl | omega))
        all_goals trace_state
      rw [Int.toNat_natCast, hkg]
      first | refine tr_join (σ := Prs) (fun S' => St.of [(0, .one (.e (.pt [.sl (eKs n.k), .sl (eIs n.v), .sl (n.c.map fun k => [.pt (ndE t f k.toNat)])]))), (1, cloL), (4, .one (.e (eI (j : Int)))), (5, .one (.e (eKy ky))), (11, .one (.e (.sl (eKs n.k)))), (12, .one (.e (eI (((eKs n.k).length : Nat) : Int)))), (13, .one (.e (eI (j : Int)))), (900000, .one (.ptr 900000 0 0)), (900001, .one (.ptr 900001 0 0)), (900002, .one (.ptr 900002 0 0))] [(900000, ⟨0, .box (.es [eKy fr]), 0⟩), (900001, ⟨0, .box (.es [eKy to]), 0⟩), (900002, ⟨0, .box (.ds [.own 900003 0]), 0⟩), (900003, ⟨0, .row 2 ((S').map ePr), 0⟩)]) (fun S' => S' = foL fr to S (if n.c.length = 0 then [] else prF t f (n.c.getD j 0).toNat)) ?_ ?_ | refine tr_seq (tr_join (σ := Prs) (fun S' => St.of [(0, .one (.e (.pt [.sl (eKs n.k), .sl (eIs n.v), .sl (n.c.map fun k => [.pt (ndE t f k.toNat)])]))), (1, cloL), (4, .one (.e (eI (j : Int)))), (5, .one (.e (eKy ky))), (11, .one (.e (.sl (eKs n.k)))), (12, .one (.e (eI (((eKs n.k).length : Nat) : Int)))), (13, .one (.e (eI (j : Int)))), (900000, .one (.ptr 900000 0 0)), (900001, .one (.ptr 900001 0 0)), (900002, .one (.ptr 900002 0 0))] [(900000, ⟨0, .box (.es [eKy fr]), 0⟩), (900001, ⟨0, .box (.es [eKy to]), 0⟩), (900002, ⟨0, .box (.ds [.own 900003 0]), 0⟩), (900003, ⟨0, .row 2 ((S').map ePr), 0⟩)]) (fun S' => S' = foL fr to S (if n.c.length = 0 then [] else prF t f (n.c.getD j 0).toNat)) ?_ ?_)
      · repeat' (first | refine tr_seq ?_ | refine tr_block ?_ | refine tr_skip ?_)
        first | refine reg (T := tab) tOk hnt rfl ?_ ?_ | refine regD (T := tab) tOk mixedR hnt rfl (by decide +kernel) ?_ ?_
        · (dsimp only [AllP]; (repeat' first | exact trivial | assumption | exact Nat.le_of_ble_eq_true rfl | apply And.intro | exact eCells_len1 _ _ ‹_› | exact eCells_isByte _ _ ‹_› | (intro hh_; have hg_ := hh_; (try simp only [condT_ff, condF_tt, notE_t, notE_f, Bool.and_eq_true, ne_eq, decide_eq_true_eq, decide_eq_false_iff_not] at hg_)) | intro _ | exact rfl | omega))
          all_goals trace_state
        repeat' (first | refine tr_seq ?_ | refine tr_block ?_ | refine tr_skip ?_)
        refine tr_cond rfl (fun hc => ?_) (fun hc => ?_)
        · simp only [condT_tt, condT_ff, condF_tt, condF_ff, notE_t, notE_f, decide_eq_true_eq, decide_eq_false_iff_not] at hc
          (try simp only [hpl] at hc)
          (try simp only [condT_tt, condT_ff, condF_tt, condF_ff, notE_t, notE_f, decide_eq_true_eq, decide_eq_false_iff_not] at hc)
          have hc4 : n.c.length = n.k.length + 1 := by
            rcases s4 with s4 | s4
            · rw [s4] at hc; exact absurd hc (by decide)
            · exact s4
          have hjc : j < n.c.length := by omega
          have hpg := hpg j hjc
          have hmem : n.c.getD j 0 ∈ n.c := by rw [List.getD_eq_getElem?_getD, List.getElem?_eq_getElem hjc]; exact List.getElem_mem hjc
          obtain ⟨hk1, hk2⟩ := hkd _ hmem
          rw [if_neg (by omega)] at hpS
          rw [if_neg (by omega)]
          generalize n.c.getD j 0 = k at *
          obtain ⟨q, rfl⟩ : ∃ q : Nat, k = (q : Int) := ⟨k.toNat, by omega⟩
          rw [Int.toNat_natCast] at hpS
          have hq := ih q S (by omega) (by omega) (by omega)
          rw [Int.toNat_natCast] at hpg
          rw [Int.toNat_natCast]
          have hpe : ndE t f q = ((((List.drop 2 ND).getD 0 E.dflt).xs.getD j []).getD 0 E.dflt).cs := by
            rw [show ((List.drop 2 ND).getD 0 E.dflt).xs.getD j [] = [.pt (ndE t f q)] from hpg]
            rfl
          dsimp only [ND] at hpe
          have hjz : Int.toNat (j : Int) = j := Int.toNat_natCast j
          rw [← hjz] at hpe
          rw [hpe] at hq
          generalize foL fr to S (prF t f q) = S1 at *
          repeat' (first | refine tr_seq ?_ | refine tr_block ?_ | refine tr_skip ?_)
          refine tr_region (lex (T := tab) tOk hnt rfl ?_ (callH (us := []) [(900000, 900000), (900001, 900001), (900002, 900002)] [(900003, 900003)] [(900003, 900003)] rfl rfl rfl rfl (hq) (by repeat' first | exact .nil | refine .lent rfl rfl rfl ?_ | refine .data rfl ?_) (fun _ => rfl) rfl rfl hnt rfl rfl (by repeat' first | exact trivial | rfl | apply And.intro) (by repeat' first | exact trivial | rfl | apply And.intro) (lex (T := tab) tOk hnt rfl ?_ (Lex.nil _)))) ?_
          · rw [Int.toNat_natCast, hpg]
            (dsimp only [AllP]; (repeat' first | exact trivial | assumption | exact Nat.le_of_ble_eq_true rfl | apply And.intro | exact eCells_len1 _ _ ‹_› | exact eCells_isByte _ _ ‹_› | (intro hh_; have hg_ := hh_; (try simp only [condT_ff, condF_tt, notE_t, notE_f, Bool.and_eq_true, ne_eq, decide_eq_true_eq, decide_eq_false_iff_not] at hg_)) | intro _ | exact rfl | omega))
            all_goals trace_state
          · (dsimp only [AllP]; (repeat' first | exact trivial | assumption | exact Nat.le_of_ble_eq_true rfl | apply And.intro | exact eCells_len1 _ _ ‹_› | exact eCells_isByte _ _ ‹_› | (intro hh_; have hg_ := hh_; (try simp only [condT_ff, condF_tt, notE_t, notE_f, Bool.and_eq_true, ne_eq, decide_eq_true_eq, decide_eq_false_iff_not] at hg_)) | intro _ | exact rfl | omega))
            all_goals trace_state
          repeat' (first | refine tr_seq ?_ | refine tr_block ?_ | refine tr_skip ?_)
          refine ⟨S1, rfl, le_of (ad := []) (by refine ⟨?_, ?_, ?_, ?_, ?_, ?_, ?_, ?_, ?_, ?_, trivial⟩ <;> first | exact trivial | rfl | exact ⟨rfl, rfl⟩ | exact ⟨rfl, rfl, rfl⟩ | exact ⟨rfl, rfl, rfl, rfl⟩ | exact ⟨rfl, rfl, rfl, rfl, rfl⟩ | exact congrArg (fun z : Int => E.v (.int .i64 z)) (wrap64_id (by omega) (by omega)) | exact congrArg (fun z : Int => E.v (.int .u8 z)) (by assumption) | exact congrArg (fun z : ByteArray => E.v (.string z)) (by assumption) | (refine ⟨rfl, ?_⟩; repeat' first | exact trivial | rfl | apply And.intro)) (memOk_box rfl rfl rfl (memOk_box rfl rfl rfl (memOk_box rfl rfl ⟨⟨rfl, rfl, rfl, rfl⟩, trivial⟩ (memOk_row rfl rfl rfl trivial))))⟩
        simp only [condT_tt, condT_ff, condF_tt, condF_ff, notE_t, notE_f, decide_eq_true_eq, decide_eq_false_iff_not] at hc
        (try simp only [hpl] at hc)
        (try simp only [condT_tt, condT_ff, condF_tt, condF_ff, notE_t, notE_f, decide_eq_true_eq, decide_eq_false_iff_not] at hc)
        rw [if_pos (by omega)]
        repeat' (first | refine tr_seq ?_ | refine tr_block ?_ | refine tr_skip ?_)
        refine ⟨S, (List.append_nil S).symm, le_of (ad := []) (by refine ⟨?_, ?_, ?_, ?_, ?_, ?_, ?_, ?_, ?_, ?_, trivial⟩ <;> first | exact trivial | rfl | exact ⟨rfl, rfl⟩ | exact ⟨rfl, rfl, rfl⟩ | exact ⟨rfl, rfl, rfl, rfl⟩ | exact ⟨rfl, rfl, rfl, rfl, rfl⟩ | exact congrArg (fun z : Int => E.v (.int .i64 z)) (wrap64_id (by omega) (by omega)) | exact congrArg (fun z : Int => E.v (.int .u8 z)) (by assumption) | exact congrArg (fun z : ByteArray => E.v (.string z)) (by assumption) | (refine ⟨rfl, ?_⟩; repeat' first | exact trivial | rfl | apply And.intro)) (memOk_box rfl rfl rfl (memOk_box rfl rfl rfl (memOk_box rfl rfl ⟨⟨rfl, rfl, rfl, rfl⟩, trivial⟩ (memOk_row rfl rfl rfl trivial))))⟩
      rintro S' hS'
      have hS'l : S'.length ≤ 300 := by
        rw [hS']
        have := foL_len fr to S (if n.c.length = 0 then [] else prF t f (n.c.getD j 0).toNat)
        omega
      have hvv : ((((List.drop 1 ND).getD 0 E.dflt).xs.getD (Int.toNat (j : Int)) []).getD 0 E.dflt).int = vl := by
        dsimp only [ND]
        rw [Int.toNat_natCast, hvg]
        rfl
      have ho := list1_fn fr to S' ky ((((List.drop 1 ND).getD 0 E.dflt).xs.getD (Int.toNat (j : Int)) []).getD 0 E.dflt).int hS'l
      have hS2 : foL fr to S' [(ky, ((((List.drop 1 ND).getD 0 E.dflt).xs.getD (Int.toNat (j : Int)) []).getD 0 E.dflt).int)] = foL fr to s0 (prP t (prF t f) n (j + 1)) := by
        rw [hvv, hfs, hS']
        unfold prS
        rw [foL_app, hky, hvx]
      rw [hS2] at ho
      dsimp only [ND] at ho
      have h64 : IntKind.i64.wrap ((j : Int) + 1) = ((j + 1 : Nat) : Int) := wrap64_id (by omega) (by omega)
      clear hS2 hfs
      generalize hS3 : foL fr to s0 (prP t (prF t f) n (j + 1)) = S2 at *
      repeat' (first | refine tr_seq ?_ | refine tr_block ?_ | refine tr_skip ?_)
      refine tr_region (lex (T := tab) tOk hnt rfl ?_ (callH (us := []) [(900000, 900000), (900001, 900001), (900002, 900002)] [(900003, 900003)] [(900003, 900003)] rfl rfl rfl rfl (ho) (by repeat' first | exact .nil | refine .lent rfl rfl rfl ?_ | refine .data rfl ?_) (fun _ => rfl) rfl rfl hnt rfl rfl (by repeat' first | exact trivial | rfl | apply And.intro) (by repeat' first | exact trivial | rfl | apply And.intro) (lex (T := tab) tOk hnt rfl ?_ (Lex.nil _)))) ?_
      · rw [Int.toNat_natCast, hvg]
        (dsimp only [AllP]; (repeat' first | exact trivial | assumption | exact Nat.le_of_ble_eq_true rfl | apply And.intro | exact eCells_len1 _ _ ‹_› | exact eCells_isByte _ _ ‹_› | (intro hh_; have hg_ := hh_; (try simp only [condT_ff, condF_tt, notE_t, notE_f, Bool.and_eq_true, ne_eq, decide_eq_true_eq, decide_eq_false_iff_not] at hg_)) | intro _ | exact rfl | omega))
        all_goals trace_state
      · (dsimp only [AllP]; (repeat' first | exact trivial | assumption | exact Nat.le_of_ble_eq_true rfl | apply And.intro | exact eCells_len1 _ _ ‹_› | exact eCells_isByte _ _ ‹_› | (intro hh_; have hg_ := hh_; (try simp only [condT_ff, condF_tt, notE_t, notE_f, Bool.and_eq_true, ne_eq, decide_eq_true_eq, decide_eq_false_iff_not] at hg_)) | intro _ | exact rfl | omega))
        all_goals trace_state
      repeat' (first | refine tr_seq ?_ | refine tr_block ?_ | refine tr_skip ?_)
      first | refine reg (T := tab) tOk hnt rfl ?_ ?_ | refine regD (T := tab) tOk mixedR hnt rfl (by decide +kernel) ?_ ?_
      · (dsimp only [AllP]; (repeat' first | exact trivial | assumption | exact Nat.le_of_ble_eq_true rfl | apply And.intro | exact eCells_len1 _ _ ‹_› | exact eCells_isByte _ _ ‹_› | (intro hh_; have hg_ := hh_; (try simp only [condT_ff, condF_tt, notE_t, notE_f, Bool.and_eq_true, ne_eq, decide_eq_true_eq, decide_eq_false_iff_not] at hg_)) | intro _ | exact rfl | omega))
        all_goals trace_state
      rw [h64, ← hS3]
      refine ⟨(j + 1), (by omega), by omega, le_of (ad := []) (by refine ⟨?_, ?_, ?_, ?_, ?_, ?_, ?_, ?_, trivial⟩ <;> first | exact trivial | rfl | exact ⟨rfl, rfl⟩ | exact ⟨rfl, rfl, rfl⟩ | exact ⟨rfl, rfl, rfl, rfl⟩ | exact ⟨rfl, rfl, rfl, rfl, rfl⟩ | exact congrArg (fun z : Int => E.v (.int .i64 z)) (wrap64_id (by omega) (by omega)) | exact congrArg (fun z : Int => E.v (.int .u8 z)) (by assumption) | exact congrArg (fun z : ByteArray => E.v (.string z)) (by assumption) | (refine ⟨rfl, ?_⟩; repeat' first | exact trivial | rfl | apply And.intro)) (memOk_box rfl rfl rfl (memOk_box rfl rfl rfl (memOk_box rfl rfl ⟨⟨rfl, rfl, rfl, rfl⟩, trivial⟩ (memOk_row rfl rfl rfl trivial))))⟩
    simp only [condT_tt, condT_ff, condF_tt, condF_ff, notE_t, notE_f, decide_eq_true_eq, decide_eq_false_iff_not] at hc
    (try simp only [hkl] at hc)
    (try simp only [condT_tt, condT_ff, condF_tt, condF_ff, notE_t, notE_f, decide_eq_true_eq, decide_eq_false_iff_not] at hc)
    refine tr_exit ?_
    obtain rfl : j = n.k.length := by omega
    repeat' (first | refine tr_seq ?_ | refine tr_block ?_ | refine tr_skip ?_)
    first | refine reg (T := tab) tOk hnt rfl ?_ ?_ | refine regD (T := tab) tOk mixedR hnt rfl (by decide +kernel) ?_ ?_
    · (dsimp only [AllP]; (repeat' first | exact trivial | assumption | exact Nat.le_of_ble_eq_true rfl | apply And.intro | exact eCells_len1 _ _ ‹_› | exact eCells_isByte _ _ ‹_› | (intro hh_; have hg_ := hh_; (try simp only [condT_ff, condF_tt, notE_t, notE_f, Bool.and_eq_true, ne_eq, decide_eq_true_eq, decide_eq_false_iff_not] at hg_)) | intro _ | exact rfl | omega))
      all_goals trace_state
    repeat' (first | refine tr_seq ?_ | refine tr_block ?_ | refine tr_skip ?_)
    refine tr_cond rfl (fun hc => ?_) (fun hc => ?_)
    · simp only [condT_tt, condT_ff, condF_tt, condF_ff, notE_t, notE_f, decide_eq_true_eq, decide_eq_false_iff_not] at hc
      (try simp only [hpl] at hc)
      (try simp only [condT_tt, condT_ff, condF_tt, condF_ff, notE_t, notE_f, decide_eq_true_eq, decide_eq_false_iff_not] at hc)
      have hc4 : n.c.length = n.k.length + 1 := by
        rcases s4 with s4 | s4
        · rw [s4] at hc; exact absurd hc (by decide)
        · exact s4
      have hjc : n.k.length < n.c.length := by omega
      have hpg := hpg n.k.length hjc
      have hmem : n.c.getD n.k.length 0 ∈ n.c := by rw [List.getD_eq_getElem?_getD, List.getElem?_eq_getElem hjc]; exact List.getElem_mem hjc
      obtain ⟨hk1, hk2⟩ := hkd _ hmem
      rw [if_neg (by omega)] at hb
      rw [if_neg (by omega), foL_app, hSj]
      generalize n.c.getD n.k.length 0 = k at *
      obtain ⟨q, rfl⟩ : ∃ q : Nat, k = (q : Int) := ⟨k.toNat, by omega⟩
      rw [Int.toNat_natCast] at hb
      have hq := ih q S (by omega) (by omega) (by omega)
      rw [Int.toNat_natCast] at hpg
      rw [Int.toNat_natCast]
      have hpe : ndE t f q = ((((List.drop 2 ND).getD 0 E.dflt).xs.getD n.k.length []).getD 0 E.dflt).cs := by
        rw [show ((List.drop 2 ND).getD 0 E.dflt).xs.getD n.k.length [] = [.pt (ndE t f q)] from hpg]
        rfl
      dsimp only [ND] at hpe
      have hjz : Int.toNat ((((eKs n.k).length : Nat) : Int)) = n.k.length := by rw [hkl]; exact Int.toNat_natCast _
      rw [← hjz] at hpe
      rw [hpe] at hq
      generalize foL fr to S (prF t f q) = S1 at *
      repeat' (first | refine tr_seq ?_ | refine tr_block ?_ | refine tr_skip ?_)
      refine tr_draw (T := tab) tOk hnt mixedR (lexD (T := tab) rfl ?_ (callHD [(900000, 900000), (900001, 900001), (900002, 900002)] [(900003, 900003)] [(900003, 900003)] rfl rfl rfl rfl (hq) (by repeat' first | exact .nil | refine .lent rfl rfl rfl ?_ | refine .data rfl ?_) rfl rfl rfl rfl rfl (by repeat' first | exact trivial | rfl | apply And.intro) (by repeat' first | exact trivial | rfl | apply And.intro) (lexD (T := tab) rfl ?_ (.nil _)))) (by decide +kernel) ?_
      · have hkl0 : ((List.drop 0 ND).getD 0 E.dflt).xs.length = n.k.length := hkl
        have hjk : Int.toNat (((((List.drop 0 ND).getD 0 E.dflt).xs.length : Nat) : Int)) = n.k.length := by rw [hkl0]; exact Int.toNat_natCast _
        dsimp only [ND] at hjk hkl0
        rw [hjk, hpg]
        (dsimp only [AllP]; (repeat' first | exact trivial | assumption | exact Nat.le_of_ble_eq_true rfl | apply And.intro | exact eCells_len1 _ _ ‹_› | exact eCells_isByte _ _ ‹_› | (intro hh_; have hg_ := hh_; (try simp only [condT_ff, condF_tt, notE_t, notE_f, Bool.and_eq_true, ne_eq, decide_eq_true_eq, decide_eq_false_iff_not] at hg_)) | intro _ | exact rfl | omega))
        all_goals trace_state
      · (dsimp only [AllP]; (repeat' first | exact trivial | assumption | exact Nat.le_of_ble_eq_true rfl | apply And.intro | exact eCells_len1 _ _ ‹_› | exact eCells_isByte _ _ ‹_› | (intro hh_; have hg_ := hh_; (try simp only [condT_ff, condF_tt, notE_t, notE_f, Bool.and_eq_true, ne_eq, decide_eq_true_eq, decide_eq_false_iff_not] at hg_)) | intro _ | exact rfl | omega))
        all_goals trace_state
      refine ⟨.inl rfl, _, _, _, rfl, trivial, rfl, fun X => le_of (ad := []) ⟨trivial, ⟨rfl, rfl, rfl, rfl, rfl⟩, ⟨rfl, rfl, rfl, rfl, rfl⟩, ⟨rfl, rfl, rfl, rfl, rfl⟩, trivial⟩ (memOk_box rfl rfl rfl (memOk_box rfl rfl rfl (memOk_box rfl rfl ⟨⟨rfl, rfl, rfl, rfl⟩, trivial⟩ (memOk_row rfl rfl rfl trivial))))⟩
    simp only [condT_tt, condT_ff, condF_tt, condF_ff, notE_t, notE_f, decide_eq_true_eq, decide_eq_false_iff_not] at hc
    (try simp only [hpl] at hc)
    (try simp only [condT_tt, condT_ff, condF_tt, condF_ff, notE_t, notE_f, decide_eq_true_eq, decide_eq_false_iff_not] at hc)
    rw [if_pos (by omega), List.append_nil, hSj]
    refine tr_skip ?_
    refine ⟨.inl rfl, _, _, _, rfl, trivial, rfl, fun X => le_of (ad := []) ⟨trivial, ⟨rfl, rfl, rfl, rfl, rfl⟩, ⟨rfl, rfl, rfl, rfl, rfl⟩, ⟨rfl, rfl, rfl, rfl, rfl⟩, trivial⟩ (memOk_box rfl rfl rfl (memOk_box rfl rfl rfl (memOk_box rfl rfl ⟨⟨rfl, rfl, rfl, rfl⟩, trivial⟩ (memOk_row rfl rfl rfl trivial))))⟩
theorem eachL_fn (fr to : Byt) (t : List Nd) (g : gT t) : ∀ (f i : Nat) (s : Prs), i < t.length → t.length ≤ f + i → s.length + (prF t f i).length ≤ 300 → FnH Tryd.prog 127 [] (msL fr to s) [.one (.e (.pt (ndE t f i))), cloL] (.tup []) (msL fr to (foL fr to s (prF t f i)))
  | 0, i, s, hi, hf, _ => absurd hi (by omega)
  | f + 1, i, s, hi, hf, hb => eachL_step fr to t g f (eachL_fn fr to t g f) i s hi hf hb
set_option maxRecDepth 10000 in
set_option maxHeartbeats 2000000 in
theorem eachLNil_fn (fr to : Byt) (s : Prs) : FnH Tryd.prog 127 [] (msL fr to s) [.one (.e (.v (.pointer none))), cloL] (.tup []) (msL fr to s) := by
  refine fn_introH (T := tab) tOk Tryd.func127 rfl (by kernel_rfl) (by simp [Tryd.ntmps127]) rfl rfl ?_
  intro X hX
  have hnt : X.nt = 63 := hX
  clear hX
  repeat' (first | refine tr_seq ?_ | refine reg (T := tab) tOk hnt rfl ?_ ?_ | refine regD (T := tab) tOk mixedR hnt rfl (by decide +kernel) ?_ ?_ | refine tr_block ?_ | refine tr_skip ?_)
  · (dsimp only [AllP]; (repeat' first | exact trivial | assumption | exact Nat.le_of_ble_eq_true rfl | apply And.intro | decide | intro _ | exact rfl))
  repeat' (first | refine tr_seq ?_ | refine tr_block ?_ | refine tr_skip ?_)
  refine tr_cond rfl (fun hc => ?_) (fun hc => ?_)
  · refine tr_ret ⟨.inr rfl, _, _, _, rfl, trivial, rfl, fun X => le_of (ad := []) ⟨trivial, ⟨rfl, rfl, rfl, rfl, rfl⟩, ⟨rfl, rfl, rfl, rfl, rfl⟩, ⟨rfl, rfl, rfl, rfl, rfl⟩, trivial⟩ (memOk_box rfl rfl rfl (memOk_box rfl rfl rfl (memOk_box rfl rfl ⟨⟨rfl, rfl, rfl, rfl⟩, trivial⟩ (memOk_row rfl rfl rfl trivial))))⟩
  exact absurd hc (by decide)
end Go.Proofs.YtphaholcndhonaaDoor.Tr
namespace Go.Proofs.YtphaholcndhonaaDoor.Tr
open Go Go.RowKit Go.Proofs.YtphaholcndhonaaDoor.Ab
set_option linter.unusedSimpArgs false
set_option linter.unusedVariables false

def lstF (fr to : Byt) (t : List Nd) : Prs × Int := if chkF t ≠ 0 then ([], chkF t) else ((tp t).filter (lsP fr to), 0)
set_option maxRecDepth 10000 in
set_option maxHeartbeats 2000000 in
theorem List_fn (t : List Nd) (hm : ∀ i, (t.getD i nd0).k.length ≤ maxLen) (fr to : Byt) : FnD Tryd.prog 70 [.agg (.es (eTr t)), .one (.e (eKy fr)), .one (.e (eKy to))] (rPs (lstF fr to t)) := by
  refine fn_intro (T := tab) tOk Tryd.func70 rfl (by kernel_rfl) (by simp [Tryd.ntmps70]) ?_
  intro X hX
  have hnt : X.nt = 20 := hX
  clear hX
  have h1 := Check_fn t hm
  unfold lstF
  repeat' (first | refine tr_seq ?_ | refine reg (T := tab) tOk hnt rfl ?_ ?_ | refine regD (T := tab) tOk mixedR hnt rfl (by decide +kernel) ?_ ?_ | refine tr_block ?_ | refine tr_skip ?_)
  · (dsimp only [AllP]; (repeat' first | exact trivial | assumption | exact Nat.le_of_ble_eq_true rfl | apply And.intro | decide | intro _ | exact rfl))
  repeat' (first | refine tr_seq ?_ | refine tr_block ?_ | refine tr_skip ?_)
  refine tr_region (lex (T := tab) tOk hnt rfl ?_ (call rfl rfl rfl rfl rfl rfl rfl hnt (h1) (lex (T := tab) tOk hnt rfl ?_ (Lex.nil _)))) ?_
  · (dsimp only [AllP]; (repeat' first | exact trivial | assumption | exact Nat.le_of_ble_eq_true rfl | apply And.intro | exact eCells_len1 _ _ ‹_› | exact eCells_isByte _ _ ‹_› | (intro hh_; have hg_ := hh_; (try simp only [condT_ff, condF_tt, notE_t, notE_f, Bool.and_eq_true, ne_eq, decide_eq_true_eq, decide_eq_false_iff_not] at hg_)) | intro _ | exact rfl | omega))
  · (dsimp only [AllP]; (repeat' first | exact trivial | assumption | exact Nat.le_of_ble_eq_true rfl | apply And.intro | exact eCells_len1 _ _ ‹_› | exact eCells_isByte _ _ ‹_› | (intro hh_; have hg_ := hh_; (try simp only [condT_ff, condF_tt, notE_t, notE_f, Bool.and_eq_true, ne_eq, decide_eq_true_eq, decide_eq_false_iff_not] at hg_)) | intro _ | exact rfl | omega))
  repeat' (first | refine tr_seq ?_ | refine reg (T := tab) tOk hnt rfl ?_ ?_ | refine regD (T := tab) tOk mixedR hnt rfl (by decide +kernel) ?_ ?_ | refine tr_block ?_ | refine tr_skip ?_)
  · (dsimp only [AllP]; (repeat' first | exact trivial | assumption | exact Nat.le_of_ble_eq_true rfl | apply And.intro | decide | intro _ | exact rfl))
  repeat' (first | refine tr_seq ?_ | refine tr_block ?_ | refine tr_skip ?_)
  refine tr_cond rfl (fun hc => ?_) (fun hc => ?_)
  · simp only [condT_tt, condT_ff, condF_tt, condF_ff, notE_t, notE_f, decide_eq_true_eq, decide_eq_false_iff_not] at hc
    have hc : chkF t ≠ 0 := hc
    rw [if_pos hc]
    repeat' (first | refine tr_seq ?_ | refine reg (T := tab) tOk hnt rfl ?_ ?_ | refine regD (T := tab) tOk mixedR hnt rfl (by decide +kernel) ?_ ?_ | refine tr_block ?_ | refine tr_skip ?_)
    · (dsimp only [AllP]; (repeat' first | exact trivial | assumption | exact Nat.le_of_ble_eq_true rfl | apply And.intro | decide | intro _ | exact rfl))
    refine tr_ret ⟨.inr rfl, _, _, rfl, by (repeat' first | exact trivial | exact Nat.le_of_ble_eq_true rfl | apply And.intro), ?_⟩
    exact rfl
  simp only [condT_tt, condT_ff, condF_tt, condF_ff, notE_t, notE_f, decide_eq_true_eq, decide_eq_false_iff_not] at hc
  have hc : chkF t = 0 := hc
  rw [if_neg (not_not_intro hc)]
  obtain ⟨_, hb, _, _⟩ := good_prs t hc
  have g := good_gT t hc
  have hr := root_fn t g
  repeat' (first | refine tr_seq ?_ | refine reg (T := tab) tOk hnt rfl ?_ ?_ | refine regD (T := tab) tOk mixedR hnt rfl (by decide +kernel) ?_ ?_ | refine tr_block ?_ | refine tr_skip ?_)
  · (dsimp only [AllP]; (repeat' first | exact trivial | assumption | exact Nat.le_of_ble_eq_true rfl | apply And.intro | decide | intro _ | exact rfl))
  refine tr_le (s' := St.of [(3, .one (.ptr 3 0 0)), (4, .one (.ptr 4 0 0)), (5, .one (.ptr 5 0 0)), (9, .one (.ptr 9 0 0))] [(3, ⟨0, .box (.es (eTr t)), 0⟩), (4, ⟨0, .box (.es [eKy fr]), 0⟩), (5, ⟨0, .box (.es [eKy to]), 0⟩), (9, ⟨0, .box (.ds [.own 50 0]), 0⟩), (50, ⟨0, .row 2 [], 0⟩)]) (le_of (ad := [50]) (by refine ⟨?_, ?_, ?_, ?_, trivial⟩ <;> first | exact trivial | rfl | exact ⟨rfl, rfl⟩ | exact ⟨rfl, rfl, rfl⟩ | exact ⟨rfl, rfl, rfl, rfl⟩ | exact ⟨rfl, rfl, rfl, rfl, rfl⟩ | exact congrArg (fun z : Int => E.v (.int .i64 z)) (wrap64_id (by omega) (by omega)) | exact congrArg (fun z : Int => E.v (.int .u8 z)) (by assumption) | exact congrArg (fun z : ByteArray => E.v (.string z)) (by assumption) | (refine ⟨rfl, ?_⟩; repeat' first | exact trivial | rfl | apply And.intro)) (memOk_box rfl rfl rfl (memOk_box rfl rfl rfl (memOk_box rfl rfl rfl (memOk_box rfl rfl ⟨⟨rfl, rfl⟩, trivial⟩ (memOk_new rfl (by decide) trivial)))))) ?_
  unfold tp at hb ⊢
  by_cases h0 : t.length = 0
  · rw [if_pos h0] at hr ⊢
    have hE := eachLNil_fn fr to []
    repeat' (first | refine tr_seq ?_ | refine tr_block ?_ | refine tr_skip ?_)
    refine tr_region (lex (T := tab) tOk hnt rfl ?_ (call rfl rfl rfl rfl rfl rfl rfl hnt (hr) (lex (T := tab) tOk hnt rfl ?_ (callH (us := []) [(900000, 4), (900001, 5), (900002, 9)] [(900003, 50)] [(900003, 50)] rfl rfl rfl rfl (hE) (by repeat' first | exact .nil | refine .lent rfl rfl rfl ?_ | refine .data rfl ?_) (fun _ => rfl) rfl rfl hnt rfl rfl (by repeat' first | exact trivial | rfl | apply And.intro) (by repeat' first | exact trivial | rfl | apply And.intro) (lex (T := tab) tOk hnt rfl ?_ (Lex.nil _)))))) ?_
    · (dsimp only [AllP]; (repeat' first | exact trivial | assumption | exact Nat.le_of_ble_eq_true rfl | apply And.intro | exact eCells_len1 _ _ ‹_› | exact eCells_isByte _ _ ‹_› | (intro hh_; have hg_ := hh_; (try simp only [condT_ff, condF_tt, notE_t, notE_f, Bool.and_eq_true, ne_eq, decide_eq_true_eq, decide_eq_false_iff_not] at hg_)) | intro _ | exact rfl | omega))
      all_goals trace_state
    · (dsimp only [AllP]; (repeat' first | exact trivial | assumption | exact Nat.le_of_ble_eq_true rfl | apply And.intro | exact eCells_len1 _ _ ‹_› | exact eCells_isByte _ _ ‹_› | (intro hh_; have hg_ := hh_; (try simp only [condT_ff, condF_tt, notE_t, notE_f, Bool.and_eq_true, ne_eq, decide_eq_true_eq, decide_eq_false_iff_not] at hg_)) | intro _ | exact rfl | omega))
      all_goals trace_state
    · (dsimp only [AllP]; (repeat' first | exact trivial | assumption | exact Nat.le_of_ble_eq_true rfl | apply And.intro | exact eCells_len1 _ _ ‹_› | exact eCells_isByte _ _ ‹_› | (intro hh_; have hg_ := hh_; (try simp only [condT_ff, condF_tt, notE_t, notE_f, Bool.and_eq_true, ne_eq, decide_eq_true_eq, decide_eq_false_iff_not] at hg_)) | intro _ | exact rfl | omega))
      all_goals trace_state
    refine tr_le (s' := St.of [(9, .one (.ptr 9 0 0))] [(9, ⟨0, .box (.ds [.own 50 0]), 0⟩), (50, ⟨0, .row 2 [], 0⟩)]) (le_of (ad := []) (by refine ⟨?_, trivial⟩ <;> first | exact trivial | rfl | exact ⟨rfl, rfl⟩ | exact ⟨rfl, rfl, rfl⟩ | exact ⟨rfl, rfl, rfl, rfl⟩ | exact ⟨rfl, rfl, rfl, rfl, rfl⟩ | exact congrArg (fun z : Int => E.v (.int .i64 z)) (wrap64_id (by omega) (by omega)) | exact congrArg (fun z : Int => E.v (.int .u8 z)) (by assumption) | exact congrArg (fun z : ByteArray => E.v (.string z)) (by assumption) | (refine ⟨rfl, ?_⟩; repeat' first | exact trivial | rfl | apply And.intro)) (memOk_box rfl rfl ⟨⟨rfl, rfl, rfl, rfl⟩, trivial⟩ (memOk_row rfl rfl rfl trivial))) ?_
    repeat' (first | refine tr_seq ?_ | refine reg (T := tab) tOk hnt rfl ?_ ?_ | refine regD (T := tab) tOk mixedR hnt rfl (by decide +kernel) ?_ ?_ | refine tr_block ?_ | refine tr_skip ?_)
    · (dsimp only [AllP]; (repeat' first | exact trivial | assumption | exact Nat.le_of_ble_eq_true rfl | apply And.intro | decide | intro _ | exact rfl))
    refine tr_ret ⟨.inr rfl, _, _, rfl, by (repeat' first | exact trivial | exact Nat.le_of_ble_eq_true rfl | apply And.intro), ?_⟩
    exact rfl
  rw [if_neg h0] at hr hb ⊢
  have hE := eachL_fn fr to t g t.length 0 [] (by omega) (by omega) (by rw [List.length_nil]; omega)
  have hfl : foL fr to [] (prF t t.length 0) = (prF t t.length 0).filter (lsP fr to) := rfl
  rw [hfl] at hE
  generalize (prF t t.length 0).filter (lsP fr to) = R at *
  repeat' (first | refine tr_seq ?_ | refine tr_block ?_ | refine tr_skip ?_)
  refine tr_region (lex (T := tab) tOk hnt rfl ?_ (call rfl rfl rfl rfl rfl rfl rfl hnt (hr) (lex (T := tab) tOk hnt rfl ?_ (callH (us := []) [(900000, 4), (900001, 5), (900002, 9)] [(900003, 50)] [(900003, 50)] rfl rfl rfl rfl (hE) (by repeat' first | exact .nil | refine .lent rfl rfl rfl ?_ | refine .data rfl ?_) (fun _ => rfl) rfl rfl hnt rfl rfl (by repeat' first | exact trivial | rfl | apply And.intro) (by repeat' first | exact trivial | rfl | apply And.intro) (lex (T := tab) tOk hnt rfl ?_ (Lex.nil _)))))) ?_
  · (dsimp only [AllP]; (repeat' first | exact trivial | assumption | exact Nat.le_of_ble_eq_true rfl | apply And.intro | exact eCells_len1 _ _ ‹_› | exact eCells_isByte _ _ ‹_› | (intro hh_; have hg_ := hh_; (try simp only [condT_ff, condF_tt, notE_t, notE_f, Bool.and_eq_true, ne_eq, decide_eq_true_eq, decide_eq_false_iff_not] at hg_)) | intro _ | exact rfl | omega))
    all_goals trace_state
  · (dsimp only [AllP]; (repeat' first | exact trivial | assumption | exact Nat.le_of_ble_eq_true rfl | apply And.intro | exact eCells_len1 _ _ ‹_› | exact eCells_isByte _ _ ‹_› | (intro hh_; have hg_ := hh_; (try simp only [condT_ff, condF_tt, notE_t, notE_f, Bool.and_eq_true, ne_eq, decide_eq_true_eq, decide_eq_false_iff_not] at hg_)) | intro _ | exact rfl | omega))
    all_goals trace_state
  · (dsimp only [AllP]; (repeat' first | exact trivial | assumption | exact Nat.le_of_ble_eq_true rfl | apply And.intro | exact eCells_len1 _ _ ‹_› | exact eCells_isByte _ _ ‹_› | (intro hh_; have hg_ := hh_; (try simp only [condT_ff, condF_tt, notE_t, notE_f, Bool.and_eq_true, ne_eq, decide_eq_true_eq, decide_eq_false_iff_not] at hg_)) | intro _ | exact rfl | omega))
    all_goals trace_state
  refine tr_le (s' := St.of [(9, .one (.ptr 9 0 0))] [(9, ⟨0, .box (.ds [.own 50 0]), 0⟩), (50, ⟨0, .row 2 (R.map ePr), 0⟩)]) (le_of (ad := []) (by refine ⟨?_, trivial⟩ <;> first | exact trivial | rfl | exact ⟨rfl, rfl⟩ | exact ⟨rfl, rfl, rfl⟩ | exact ⟨rfl, rfl, rfl, rfl⟩ | exact ⟨rfl, rfl, rfl, rfl, rfl⟩ | exact congrArg (fun z : Int => E.v (.int .i64 z)) (wrap64_id (by omega) (by omega)) | exact congrArg (fun z : Int => E.v (.int .u8 z)) (by assumption) | exact congrArg (fun z : ByteArray => E.v (.string z)) (by assumption) | (refine ⟨rfl, ?_⟩; repeat' first | exact trivial | rfl | apply And.intro)) (memOk_box rfl rfl ⟨⟨rfl, rfl, rfl, rfl⟩, trivial⟩ (memOk_row rfl rfl rfl trivial))) ?_
  repeat' (first | refine tr_seq ?_ | refine reg (T := tab) tOk hnt rfl ?_ ?_ | refine regD (T := tab) tOk mixedR hnt rfl (by decide +kernel) ?_ ?_ | refine tr_block ?_ | refine tr_skip ?_)
  · (dsimp only [AllP]; (repeat' first | exact trivial | assumption | exact Nat.le_of_ble_eq_true rfl | apply And.intro | decide | intro _ | exact rfl))
  refine tr_ret ⟨.inr rfl, _, _, rfl, by (repeat' first | exact trivial | exact Nat.le_of_ble_eq_true rfl | apply And.intro), ?_⟩
  exact rfl
end Go.Proofs.YtphaholcndhonaaDoor.Tr
namespace Go.Proofs.YtphaholcndhonaaDoor.Tr
open Go Go.RowKit Go.Proofs.YtphaholcndhonaaDoor.Ab
set_option linter.unusedSimpArgs false
set_option linter.unusedVariables false

theorem prLen (l : Prs) : (l.map ePr).length = l.length := List.length_map ..
theorem prGet (l : Prs) {i : Nat} (h : i < l.length) : (l.map ePr).getD i [] = ePr (l.getD i pr0) := by
  rw [List.getD_eq_getElem?_getD, List.getElem?_map, List.getElem?_eq_getElem h, List.getD_eq_getElem?_getD, List.getElem?_eq_getElem h]
  rfl
theorem prEq1 (p q : Byt × Int) : (eqD tab 9 136 (.agg (.es (List.take 2 (List.drop 0 (ePr p))))) (.agg (.es (List.take 2 (List.drop 0 (ePr q)))))).1 :=
  ⟨⟨Nat.le_of_ble_eq_true rfl, rfl⟩, ⟨Nat.le_of_ble_eq_true rfl, rfl⟩, trivial, ⟨Nat.le_of_ble_eq_true rfl, rfl⟩, ⟨Nat.le_of_ble_eq_true rfl, rfl⟩, rfl, trivial⟩
theorem prEq2 (p : Byt × Int) : (eqD tab 9 136 (.agg (.es (List.take 2 (List.drop 0 (ePr p))))) (.agg (.es (List.take 2 (List.drop 0 (ePr p)))))).2 = true := by
  show (strEq (strB p.1) (strB p.1) && (p.2 == p.2 && true)) = true
  rw [strEq_B2, decide_eq_true rfl]
  simp
def ldF (fr to : Byt) (x : Prs × Int) : Prs × Int := if x.2 ≠ 0 then ([], x.2) else (x.1.filter (lsP fr to), 0)
theorem lst_ld (fr to : Byt) (t : List Nd) : lstF fr to t = ldF fr to (prsF t) := by
  unfold lstF ldF
  by_cases h : chkF t = 0
  · rw [if_neg (not_not_intro h), (good_prs t h).1, if_neg (by simp)]
  · rw [if_pos h, bad_prs t h, if_pos h]
theorem lsP_of (fr to : Byt) (p : Byt × Int) : (bif decide (0 ≤ cmpT p.1 fr) then decide (cmpT p.1 to ≤ 0) else false) = lsP fr to p := by
  unfold lsP
  have h := cmpT_sw fr p.1
  have e : decide (0 ≤ cmpT p.1 fr) = decide (cmpT fr p.1 ≤ 0) := decide_eq_decide.2 ⟨fun _ => by omega, fun _ => by omega⟩
  rw [e]
end Go.Proofs.YtphaholcndhonaaDoor.Tr
