/- Does a condition hold? The kinds of values. No condition. -/
import Derived.Test.YthnadkafegmacaaGreatDoorTEvQ
namespace Go.Proofs.YthnadkafegmacaaGreatDoor
open Go Go.RowKit Go.Proofs.YthnadkafegmacaaGreatDoor.Ab
set_option linter.unusedSimpArgs false
set_option linter.unusedVariables false

theorem fs_find : ∀ (l : List Colm) (s : Byt) (i : Nat), (l.find? (fun c => decide (c.n = s)) = none ∧ fsF l s i = -1) ∨ ∃ j, j < l.length ∧ l.find? (fun c => decide (c.n = s)) = some (l.getD j col0) ∧ fsF l s i = ((i + j : Nat) : Int)
  | [], _, _ => .inl ⟨rfl, rfl⟩
  | c :: r, s, i => by
    by_cases h : c.n = s
    · refine .inr ⟨0, by simp, ?_, ?_⟩
      · rw [List.find?_cons_of_pos (by simpa using h)]; rfl
      · rw [fsF, if_pos h]; rfl
    · rcases fs_find r s (i + 1) with ⟨h1, h2⟩ | ⟨j, h0, h1, h2⟩
      · refine .inl ⟨?_, ?_⟩
        · rw [List.find?_cons_of_neg (by simpa using h)]; exact h1
        · rw [fsF, if_neg h]; exact h2
      · refine .inr ⟨j + 1, by rw [List.length_cons]; omega, ?_, ?_⟩
        · rw [List.find?_cons_of_neg (by simpa using h), h1]; rfl
        · rw [fsF, if_neg h, h2]; omega
theorem rwF_kind : ∀ (r : List Val) (l : List Colm), r.length = l.length → rwF r l = 0 → ∀ j, j < l.length → (r.getD j val0).k = 0 ∨ (r.getD j val0).k = (l.getD j col0).k
  | [], [], _, _, j, h => by simp at h
  | [], c :: l, hl, _, _, _ => by cases hl
  | a :: r, [], hl, _, _, _ => by cases hl
  | a :: r, c :: l, hl, h, j, hj => by
    rw [rwF] at h
    by_cases ha : chk a ≠ 0
    · rw [if_pos ha] at h; exact absurd h ha
    rw [if_neg ha] at h
    have hr : rwF r l = 0 ∧ (a.k = 0 ∨ a.k = c.k) := by
      by_cases k0 : a.k = 0
      · rw [if_pos k0] at h
        split at h
        · cases h
        · exact ⟨h, .inl k0⟩
      · rw [if_neg k0] at h
        by_cases kc : a.k ≠ c.k
        · rw [if_pos kc] at h; cases h
        · rw [if_neg kc] at h; exact ⟨h, .inr (Classical.not_not.1 kc)⟩
    cases j with
    | zero => exact hr.2
    | succ j => exact rwF_kind r l (by simpa using hl) hr.1 j (by simpa using hj)
def isK (k : Int) (x : Val × Int) : Prop := x.2 = 0 → x.1.k = 0 ∨ x.1.k = k
theorem isK_err {k : Int} {v : Val} {e : Int} (h : e ≠ 0) : isK k (v, e) := fun h2 => absurd h2 h
theorem oneK {op : Int} (h : op1 op) (v : Val) : isK (if op = 3 ∨ op = 18 then 2 else 1) (oneF op v) := by
  unfold op1 at h
  unfold oneF
  rcases h with rfl | rfl | rfl | rfl
  all_goals repeat' split
  all_goals first | exact fun _ => .inl rfl | exact fun _ => .inr rfl | (exfalso; simp_all; done)
theorem trVK {t : Int} : (trV t).k = 0 ∨ (trV t).k = 1 := by
  unfold trV
  split
  · exact .inl rfl
  · exact .inr rfl
theorem tw2K {op : Int} (h : op2 op) (v w : Val) (hw : op ≠ 20) : isK (if op = 19 then 4 else if 5 ≤ op ∧ op ≤ 8 then 2 else 1) (tw2F op v w) := by
  unfold op2 at h
  unfold tw2F
  by_cases o1 : op = 15 ∨ op = 16
  · rw [if_pos o1, if_neg (by omega), if_neg (by omega)]
    unfold lgF
    split
    · exact fun _ => .inl rfl
    · exact fun _ => trVK
  rw [if_neg o1, if_neg hw]
  by_cases o19 : op = 19
  · rw [if_pos o19, if_pos o19]
    unfold jnF
    repeat' split
    all_goals first | exact fun _ => .inl rfl | exact fun _ => .inr rfl
  rw [if_neg o19, if_neg o19]
  by_cases o5 : 5 ≤ op ∧ op ≤ 8
  · rw [if_pos o5, if_pos o5]
    unfold rkF rkN
    repeat' split
    all_goals first | exact fun _ => .inl rfl | exact fun _ => .inr rfl
  · rw [if_neg o5, if_neg o5]
    unfold cpF
    repeat' split
    all_goals first | exact fun _ => .inl rfl | exact fun _ => .inr rfl
theorem akF_k {k g : Int} : ∀ (l : List Srt) (u : Bool), (akF k g u l).2.2 = 0 → (akF k g u l).1 = g
  | [], _, _ => rfl
  | x :: r, u, h => by
    rw [akF] at h ⊢
    split at h
    · exact absurd h (by decide)
    · rename_i hf
      rw [if_neg hf]
      exact akF_k r _ h
theorem joF_k1 {op : Int} (ho : op1 op) (l : List Srt) (h : (joF op l).2.2 = 0) : (joF op l).1 = if op = 3 ∨ op = 18 then 2 else 1 := by
  unfold op1 at ho
  rcases ho with rfl | rfl | rfl | rfl
  · exact akF_k (k := 2) (g := 2) l false h
  · exact akF_k (k := 1) (g := 1) l false h
  · rfl
  · exact akF_k (k := 4) (g := 2) l false h
theorem joF_k2 {op : Int} (ho : op2 op) (l : List Srt) (hn : op ≠ 20) (h : (joF op l).2.2 = 0) : (joF op l).1 = if op = 19 then 4 else if 5 ≤ op ∧ op ≤ 8 then 2 else 1 := by
  unfold op2 at ho
  by_cases o5 : 5 ≤ op ∧ op ≤ 8
  · rw [if_neg (by omega), if_pos o5]
    unfold joF at h ⊢
    rw [if_pos (by omega)] at h ⊢
    exact akF_k l false h
  by_cases o1 : op = 15 ∨ op = 16
  · rw [if_neg (by omega), if_neg (by omega)]
    unfold joF at h ⊢
    rw [if_neg (by omega), if_pos (by omega)] at h ⊢
    exact akF_k l false h
  by_cases o19 : op = 19
  · subst o19
    exact akF_k (k := 4) (g := 4) l false h
  · rw [if_neg o19, if_neg o5]
    unfold joF at h ⊢
    rw [if_neg (by omega), if_neg (by omega), if_neg (by omega), if_neg (by omega), if_neg (by omega)] at h ⊢
    unfold twF at h ⊢
    split at h
    · exact absurd h (by decide)
    · rename_i hc
      rw [if_neg hc, if_neg hn]
theorem joF_k3 (a b : Srt) (h : (joF 20 [a, b]).2.2 = 0) : (joF 20 [a, b]).1 = (wiF a b).1 ∧ (a.1 = (wiF a b).1 ∨ a.1 = 0) ∧ (b.1 = (wiF a b).1 ∨ b.1 = 0) := by
  have e : joF 20 [a, b] = twF 20 a b := rfl
  rw [e] at h ⊢
  unfold twF at h ⊢
  by_cases hc : (bif !ftB a (wiF a b).1 then true else !ftB b (wiF a b).1) = true
  · rw [if_pos hc] at h; exact absurd h (by decide)
  · rw [if_neg hc, if_pos rfl]
    have hc : (bif !ftB a (wiF a b).1 then true else !ftB b (wiF a b).1) = false := by simpa using hc
    simp only [zz1, zz2, zz3, zz4, zz5, zz6, zz7, zz8] at hc
    have ftB_t : ∀ (s : Srt) (k : Int), ftB s k = true → s.1 = k ∨ s.1 = 0 := fun s k h => by
      unfold ftB at h
      simp only [zz1, zz2, zz3, zz4, zz5, zz6, zz7, zz8] at h
      exact h
    exact ⟨rfl, ftB_t _ _ hc.1, ftB_t _ _ hc.2⟩
theorem kdA_two (l : List Colm) (a b : Ex) (h : (kdA l [] [a, b]).1 = 0) : (kdF l a).2.2 = 0 ∧ (kdF l b).2.2 = 0 ∧ (kdA l [] [a, b]).2 = [((kdF l a).1, (kdF l a).2.1), ((kdF l b).1, (kdF l b).2.1)] := by
  rw [kdA] at h ⊢
  by_cases h1 : (kdF l a).2.2 ≠ 0
  · rw [if_pos h1] at h; exact absurd h h1
  rw [if_neg h1] at h ⊢
  rw [kdA] at h ⊢
  by_cases h2 : (kdF l b).2.2 ≠ 0
  · rw [if_pos h2] at h; exact absurd h h2
  rw [if_neg h2]
  exact ⟨Classical.not_not.1 h1, Classical.not_not.1 h2, by rw [kdA]; rfl⟩
theorem typed (cols : List Colm) (row : List Val) (hl : row.length = cols.length) (hr : rwF row cols = 0) : ∀ (m : Nat) (x : Ex), nodes x ≤ m → ndF x = 0 → (kdF cols x).2.2 = 0 → isK (kdF cols x).1 ((thO cols x).ev row)
  | 0, x, h, _, _ => absurd h (by have := nodes_pos x; omega)
  | m + 1, .mk op v n ar, h, hn, hk => by
    obtain ⟨n1, n2⟩ := nd_zero hn
    obtain ⟨k1, k2, k3, k4, k5, k6, k7⟩ := node_ok n1
    obtain ⟨w1, w2, w3⟩ := want_cases k1 k2
    change 1 ≤ op at k1
    change op ≤ 20 at k2
    change (ar.length : Int) = wantF op at k3
    change wantF op = 0 ↔ op = 1 ∨ op = 2 at w1
    change wantF op = 1 ↔ op1 op at w2
    change wantF op = 2 ↔ op2 op at w3
    rw [thO_eq]
    rw [kdF] at hk ⊢
    match ar, h, n2, k3 with
    | [], h, n2, k3 =>
      rcases w1.1 k3.symm with rfl | rfl
      · exact fun _ => .inr rfl
      · show isK _ ((lfT cols (.mk 2 v n [])).ev row)
        rw [lf_ev cols row _ (by show (2 : Int) ≠ 1; decide)]
        show isK (if (2 : Int) = 1 then _ else if (2 : Int) = 2 then fndF cols n else _ : KR).1 (if fsF cols n 0 < 0 then (val0, 5) else (row.getD (fsF cols n 0).toNat val0, 0))
        rw [if_neg (by decide), if_pos rfl]
        unfold fndF
        rcases fs_find cols n 0 with ⟨h1, h2⟩ | ⟨j, h0, h1, h2⟩
        · rw [h2, if_pos (by decide)]; exact isK_err (by decide)
        · rw [h1, h2, if_neg (by omega)]
          intro _
          have := rwF_kind row cols hl hr j h0
          rw [show ((0 + j : Nat) : Int).toNat = j by omega]
          exact this
    | [a], h, n2, k3 =>
      have ho := w2.1 k3.symm
      have hne : op ≠ 1 ∧ op ≠ 2 := by unfold op1 at ho; omega
      rw [if_neg hne.1, if_neg hne.2] at hk ⊢
      by_cases ha : (kdA cols [] [a]).1 ≠ 0
      · rw [if_pos ha] at hk; exact absurd hk ha
      rw [if_neg ha] at hk ⊢
      rw [joF_k1 ho _ hk]
      show isK _ (solF op ((thO cols a).ev row))
      unfold solF
      by_cases hx : ((thO cols a).ev row).2 ≠ 0
      · rw [if_pos hx]; exact fun _ => .inl rfl
      · rw [if_neg hx]; exact oneK ho _
    | [a, b], h, n2, k3 =>
      have ho := w3.1 k3.symm
      have hne : op ≠ 1 ∧ op ≠ 2 := by unfold op2 at ho; omega
      rw [if_neg hne.1, if_neg hne.2] at hk ⊢
      by_cases ha : (kdA cols [] [a, b]).1 ≠ 0
      · rw [if_pos ha] at hk; exact absurd hk ha
      rw [if_neg ha] at hk ⊢
      obtain ⟨a1, a2, a3⟩ := kdA_two cols a b (Classical.not_not.1 ha)
      have iha := typed cols row hl hr m a (kid_nodes h (by show a ∈ [a, b]; simp)) (n2 a (by show a ∈ [a, b]; simp)) a1
      have ihb := typed cols row hl hr m b (kid_nodes h (by show b ∈ [a, b]; simp)) (n2 b (by show b ∈ [a, b]; simp)) a2
      show isK _ (twnF op ((thO cols a).ev row) ((thO cols b).ev row))
      unfold twnF
      by_cases o20 : op = 20
      · subst o20
        rw [a3] at hk ⊢
        obtain ⟨j1, j2, j3⟩ := joF_k3 _ _ hk
        rw [j1]
        by_cases hx : ((thO cols a).ev row).2 ≠ 0
        · rw [if_pos hx]; exact fun _ => .inl rfl
        rw [if_neg hx]
        have iha := iha (Classical.not_not.1 hx)
        by_cases hcut : cutB 20 ((thO cols a).ev row).1
        · rw [if_pos hcut]
          have hk0 : ((thO cols a).ev row).1.k ≠ 0 := by
            rcases hcut with h | h | h
            · exact h.2
            · exact absurd h.1 (by decide)
            · exact absurd h.1 (by decide)
          intro _
          dsimp only at j2 j3 ⊢
          omega
        · rw [if_neg hcut]
          by_cases hy : ((thO cols b).ev row).2 ≠ 0
          · rw [if_pos hy]; exact fun _ => .inl rfl
          rw [if_neg hy]
          have ihb := ihb (Classical.not_not.1 hy)
          intro _
          show ((thO cols b).ev row).1.k = 0 ∨ ((thO cols b).ev row).1.k = _
          have hak : (wiF ((kdF cols a).1, (kdF cols a).2.1) ((kdF cols b).1, (kdF cols b).2.1)).1 = if (kdF cols a).1 = 0 then (kdF cols b).1 else (kdF cols a).1 := rfl
          dsimp only at j2 j3
          omega
      · rw [joF_k2 ho _ o20 hk]
        by_cases hx : ((thO cols a).ev row).2 ≠ 0
        · rw [if_pos hx]; exact fun _ => .inl rfl
        rw [if_neg hx]
        by_cases hcut : cutB op ((thO cols a).ev row).1
        · rw [if_pos hcut]
          intro _
          rcases hcut with h | h | h
          · exact absurd h.1 o20
          · right
            rw [if_neg (by omega), if_neg (by omega)]
            show ((thO cols a).ev row).1.k = 1
            rw [h.2]; rfl
          · right
            rw [if_neg (by omega), if_neg (by omega)]
            show ((thO cols a).ev row).1.k = 1
            rw [h.2]; rfl
        rw [if_neg hcut]
        by_cases hy : ((thO cols b).ev row).2 ≠ 0
        · rw [if_pos hy]; exact fun _ => .inl rfl
        rw [if_neg hy]
        exact tw2K ho _ _ o20
    | a :: b :: c :: r, h, n2, k3 =>
      have : wantF op ≤ 2 := by unfold wantF; split; decide; split <;> decide
      simp only [List.length_cons] at k3
      omega
def hdF (x : Ex) (cols : List Colm) (row : List Val) : Bool × Int :=
  if cdF x cols ≠ 0 then (false, cdF x cols) else if rowF row cols ≠ 0 then (false, rowF row cols) else if noC x then (true, 0) else if ((thO cols x).ev row).2 ≠ 0 then (false, ((thO cols x).ev row).2) else (decide (((thO cols x).ev row).1 = bV true), 0)
theorem cd_ko {x : Ex} {cols : List Colm} (h : cdF x cols = 0) (hn : ¬ noC x) : exF x = 0 ∧ colsF cols = 0 ∧ (kdF cols x).2.2 = 0 ∧ (kdF cols x).1 ≤ 1 := by
  unfold cdF at h
  rw [if_neg hn] at h
  have h2 : (koF x cols).2.2 = 0 := by
    split at h
    · cases h
    · exact h
  have h3 : ¬ 1 < (koF x cols).1 := fun e => by rw [if_pos ⟨h2, e⟩] at h; cases h
  unfold koF at h2 h3
  by_cases he : exF x ≠ 0
  · rw [if_pos he] at h2; exact absurd h2 he
  rw [if_neg he] at h2 h3
  by_cases hc : colsF cols ≠ 0
  · rw [if_pos hc] at h2; exact absurd h2 hc
  rw [if_neg hc] at h2 h3
  exact ⟨Classical.not_not.1 he, Classical.not_not.1 hc, h2, by omega⟩
theorem row_rw {r : List Val} {l : List Colm} (h : rowF r l = 0) : rwF r l = 0 := by
  unfold rowF at h
  split at h
  · contradiction
  · split at h
    · cases h
    · exact h
def rBE2 (x : Bool × Int) : D := .tup [(false, .es [.v (.bool x.1)]), (false, .es [eI x.2])]
theorem int_yes {v : Val} (h : good v) (hk : v.k = 0 ∨ v.k = 1) : decide (v.i = 1) = decide (v = bV true) := by
  rcases hk with hk | hk
  · rw [chk_null h.1 hk]; rfl
  · rcases chk_bool h.1 hk with e | e <;> rw [e] <;> rfl
set_option maxRecDepth 10000 in
set_option maxHeartbeats 2000000 in
theorem Holds_fn (x : Ex) (cols : List Colm) (row : List Val) (hx : exOk x) (hn : ∀ c ∈ cols, c.n.length ≤ maxLen) (hv : ∀ v ∈ row, v.ok) : FnG Tryz.prog 36 gK [.agg (.es (eEx x)), .one (.e (eCols cols)), .one (.e (eRow row))] (rBE2 (hdF x cols row)) := by
  refine fn_introG (T := tab) tOk Tryz.func36 rfl (by kernel_rfl) (by simp [Tryz.ntmps36]) ?_
  intro X hX
  have hnt : X.nt = 37 := hX
  clear hX
  have h7 : 0 + 7 ≤ (Cs.es (eEx x)).len := by have := ex7 x; show 0 + 7 ≤ (eEx x).length; omega
  have e7 : (Cs.es (eEx x)).len = 7 := ex7 x
  have h1 := Condition_fn x cols hx hn
  have h2 := Row_fn row cols hn hv
  have h3 := none_fn x
  rw [← exAll x] at h1 h3
  have hF : hdF x cols row = hdF x cols row := rfl
  conv at hF => rhs; unfold hdF
  generalize hdF x cols row = Z at *
  repeat' first | refine zzs ?_ | refine zzb ?_ | refine zzk ?_
  first | refine zzr hnt rfl ?_ ?_ | refine zzd hnt rfl ?_ ?_
  · exact zza
  repeat' first | refine zzs ?_ | refine zzb ?_ | refine zzk ?_
  refine tr_region (zzx hnt rfl ?_ (callV rfl rfl rfl rfl rfl rfl rfl hnt rfl (h1) (zzx hnt rfl ?_ (Lex.nil _)))) ?_
  · exact zza
  · exact zza
  repeat' first | refine zzs ?_ | refine zzr hnt rfl ?_ ?_ | refine zzd hnt rfl ?_ ?_ | refine zzb ?_ | refine zzk ?_
  · exact zzt
  repeat' first | refine zzs ?_ | refine zzb ?_ | refine zzk ?_
  refine tr_cond rfl (fun hc => ?_) (fun hc => ?_)
  · simp only [zz1, zz2, zz3, zz4, zz5, zz6, zz7, zz8] at hc
    rw [if_pos hc] at hF
    subst hF
    repeat' first | refine zzs ?_ | refine zzr hnt rfl ?_ ?_ | refine zzd hnt rfl ?_ ?_ | refine zzb ?_ | refine zzk ?_
    · exact zzt
    exact tr_ret ⟨.inr rfl, _, _, rfl, zzp, rfl⟩
  simp only [zz1, zz2, zz3, zz4, zz5, zz6, zz7, zz8] at hc
  rw [if_neg (not_not_intro hc)] at hF
  have hcd : cdF x cols = 0 := hc
  repeat' first | refine zzs ?_ | refine zzb ?_ | refine zzk ?_
  refine tr_region (zzx hnt rfl ?_ (callV rfl rfl rfl rfl rfl rfl rfl hnt rfl (h2) (zzx hnt rfl ?_ (Lex.nil _)))) ?_
  · exact zzt
  · exact zzt
  repeat' first | refine zzs ?_ | refine zzr hnt rfl ?_ ?_ | refine zzd hnt rfl ?_ ?_ | refine zzb ?_ | refine zzk ?_
  · exact zzt
  repeat' first | refine zzs ?_ | refine zzb ?_ | refine zzk ?_
  refine tr_cond rfl (fun hc => ?_) (fun hc => ?_)
  · simp only [zz1, zz2, zz3, zz4, zz5, zz6, zz7, zz8] at hc
    rw [if_pos hc] at hF
    subst hF
    repeat' first | refine zzs ?_ | refine zzr hnt rfl ?_ ?_ | refine zzd hnt rfl ?_ ?_ | refine zzb ?_ | refine zzk ?_
    · exact zzt
    exact tr_ret ⟨.inr rfl, _, _, rfl, zzp, rfl⟩
  simp only [zz1, zz2, zz3, zz4, zz5, zz6, zz7, zz8] at hc
  rw [if_neg (not_not_intro hc)] at hF
  have hrw : rowF row cols = 0 := hc
  repeat' first | refine zzs ?_ | refine zzb ?_ | refine zzk ?_
  refine tr_region (zzx hnt rfl ?_ (call rfl rfl rfl rfl rfl rfl rfl hnt (h3) (zzx hnt rfl ?_ (Lex.nil _)))) ?_
  · exact zza
  · exact zza
  repeat' first | refine zzs ?_ | refine zzb ?_ | refine zzk ?_
  refine tr_cond rfl (fun hc => ?_) (fun hc => ?_)
  · have hc := of_decide_eq_true (show decide (noC x) = true from hc)
    rw [if_pos hc] at hF
    subst hF
    repeat' first | refine zzs ?_ | refine zzr hnt rfl ?_ ?_ | refine zzd hnt rfl ?_ ?_ | refine zzb ?_ | refine zzk ?_
    · exact zzt
    exact tr_ret ⟨.inr rfl, _, _, rfl, zzp, rfl⟩
  have hno := of_decide_eq_false (show decide (noC x) = false from hc)
  rw [if_neg hno] at hF
  obtain ⟨q1, q2, q3, q4⟩ := cd_ko hcd hno
  obtain ⟨r1, r2, r3⟩ := row_ok hv hrw
  have ht := typed cols row r2 (row_rw hrw) (nodes x) x (Nat.le_refl _) (exF_ok q1) q3
  have hgd := Th.ev_good (thO cols x) (th_ok cols row r2 r3 (nodes x) x (Nat.le_refl _) hx (exF_ok q1))
  have hz := tv_zero (thO cols x) row
  have h4 := Eval_fn x cols row hx hn hv
  have he : evF x cols row = if ((thO cols x).ev row).2 ≠ 0 then (val0, ((thO cols x).ev row).2) else (((thO cols x).ev row).1, 0) := by
    unfold evF
    rw [if_neg (not_not_intro q1), if_neg (not_not_intro hrw)]
  rw [he, ← exAll x] at h4
  generalize (thO cols x).ev row = A at *
  obtain ⟨v, e⟩ := A
  dsimp only at hF h4 hgd
  by_cases h0 : e ≠ 0
  · rw [if_pos h0] at hF h4
    subst hF
    repeat' first | refine zzs ?_ | refine zzb ?_ | refine zzk ?_
    refine tr_region (zzx hnt rfl ?_ (callV rfl rfl rfl rfl rfl rfl rfl hnt rfl (h4) (zzx hnt rfl ?_ (Lex.nil _)))) ?_
    · exact zza
    · exact zza
    repeat' first | refine zzs ?_ | refine zzr hnt rfl ?_ ?_ | refine zzd hnt rfl ?_ ?_ | refine zzb ?_ | refine zzk ?_
    · exact zzt
    exact tr_ret ⟨.inr rfl, _, _, rfl, zzp, rfl⟩
  rw [if_neg h0] at hF h4
  have hg := hgd (Classical.not_not.1 h0)
  have hk : v.k = 0 ∨ v.k = 1 := by
    have h1 : v.k = 0 ∨ v.k = (kdF cols x).1 := ht (Classical.not_not.1 h0)
    have := (chk_cases hg.1).1
    omega
  subst hF
  repeat' first | refine zzs ?_ | refine zzb ?_ | refine zzk ?_
  refine tr_region (zzx hnt rfl ?_ (callV rfl rfl rfl rfl rfl rfl rfl hnt rfl (h4) (zzx hnt rfl ?_ (Lex.nil _)))) ?_
  · exact zza
  · exact zza
  repeat' first | refine zzs ?_ | refine zzr hnt rfl ?_ ?_ | refine zzd hnt rfl ?_ ?_ | refine zzb ?_ | refine zzk ?_
  · exact zzt
  rw [← int_yes hg hk]
  exact tr_ret ⟨.inr rfl, _, _, rfl, zzp, rfl⟩
set_option maxRecDepth 10000 in
set_option maxHeartbeats 2000000 in
theorem True_fn (x : Ex) (cols : List Colm) (row : List Val) (hx : exOk x) (hn : ∀ c ∈ cols, c.n.length ≤ maxLen) (hv : ∀ v ∈ row, v.ok) : FnG Tryz.prog 39 gK [.agg (.es (eEx x)), .one (.e (eCols cols)), .one (.e (eRow row))] (rBE2 (hdF x cols row)) := by
  refine fn_introG (T := tab) tOk Tryz.func39 rfl (by kernel_rfl) (by simp [Tryz.ntmps39]) ?_
  intro X hX
  have hnt : X.nt = 39 := hX
  clear hX
  have h7 : 0 + 7 ≤ (Cs.es (eEx x)).len := by have := ex7 x; show 0 + 7 ≤ (eEx x).length; omega
  have e7 : (Cs.es (eEx x)).len = 7 := ex7 x
  have h1 := conditionFault_fn x cols hx hn
  have h2 := rowFault_fn row cols hn hv
  have h3 := noExpr_fn x
  rw [← exAll x] at h1 h3
  have hF : hdF x cols row = hdF x cols row := rfl
  conv at hF => rhs; unfold hdF
  generalize hdF x cols row = Z at *
  repeat' first | refine zzs ?_ | refine zzb ?_ | refine zzk ?_
  first | refine zzr hnt rfl ?_ ?_ | refine zzd hnt rfl ?_ ?_
  · exact zza
  repeat' first | refine zzs ?_ | refine zzb ?_ | refine zzk ?_
  refine tr_region (zzx hnt rfl ?_ (callV rfl rfl rfl rfl rfl rfl rfl hnt rfl (h1) (zzx hnt rfl ?_ (Lex.nil _)))) ?_
  · exact zza
  · exact zza
  repeat' first | refine zzs ?_ | refine zzr hnt rfl ?_ ?_ | refine zzd hnt rfl ?_ ?_ | refine zzb ?_ | refine zzk ?_
  · exact zzt
  repeat' first | refine zzs ?_ | refine zzb ?_ | refine zzk ?_
  refine tr_cond rfl (fun hc => ?_) (fun hc => ?_)
  · simp only [zz1, zz2, zz3, zz4, zz5, zz6, zz7, zz8] at hc
    rw [if_pos hc] at hF
    subst hF
    repeat' first | refine zzs ?_ | refine zzr hnt rfl ?_ ?_ | refine zzd hnt rfl ?_ ?_ | refine zzb ?_ | refine zzk ?_
    · exact zzt
    exact tr_ret ⟨.inr rfl, _, _, rfl, zzp, rfl⟩
  simp only [zz1, zz2, zz3, zz4, zz5, zz6, zz7, zz8] at hc
  rw [if_neg (not_not_intro hc)] at hF
  have hcd : cdF x cols = 0 := hc
  repeat' first | refine zzs ?_ | refine zzb ?_ | refine zzk ?_
  refine tr_region (zzx hnt rfl ?_ (callV rfl rfl rfl rfl rfl rfl rfl hnt rfl (h2) (zzx hnt rfl ?_ (Lex.nil _)))) ?_
  · exact zzt
  · exact zzt
  repeat' first | refine zzs ?_ | refine zzr hnt rfl ?_ ?_ | refine zzd hnt rfl ?_ ?_ | refine zzb ?_ | refine zzk ?_
  · exact zzt
  repeat' first | refine zzs ?_ | refine zzb ?_ | refine zzk ?_
  refine tr_cond rfl (fun hc => ?_) (fun hc => ?_)
  · simp only [zz1, zz2, zz3, zz4, zz5, zz6, zz7, zz8] at hc
    rw [if_pos hc] at hF
    subst hF
    repeat' first | refine zzs ?_ | refine zzr hnt rfl ?_ ?_ | refine zzd hnt rfl ?_ ?_ | refine zzb ?_ | refine zzk ?_
    · exact zzt
    exact tr_ret ⟨.inr rfl, _, _, rfl, zzp, rfl⟩
  simp only [zz1, zz2, zz3, zz4, zz5, zz6, zz7, zz8] at hc
  rw [if_neg (not_not_intro hc)] at hF
  have hrw : rowF row cols = 0 := hc
  repeat' first | refine zzs ?_ | refine zzb ?_ | refine zzk ?_
  refine tr_region (zzx hnt rfl ?_ (call rfl rfl rfl rfl rfl rfl rfl hnt (h3) (zzx hnt rfl ?_ (Lex.nil _)))) ?_
  · exact zza
  · exact zza
  repeat' first | refine zzs ?_ | refine zzb ?_ | refine zzk ?_
  refine tr_cond rfl (fun hc => ?_) (fun hc => ?_)
  · have hc := of_decide_eq_true (show decide (noC x) = true from hc)
    rw [if_pos hc] at hF
    subst hF
    repeat' first | refine zzs ?_ | refine zzr hnt rfl ?_ ?_ | refine zzd hnt rfl ?_ ?_ | refine zzb ?_ | refine zzk ?_
    · exact zzt
    exact tr_ret ⟨.inr rfl, _, _, rfl, zzp, rfl⟩
  have hno := of_decide_eq_false (show decide (noC x) = false from hc)
  rw [if_neg hno] at hF
  obtain ⟨q1, q2, q3, q4⟩ := cd_ko hcd hno
  obtain ⟨r1, r2, r3⟩ := row_ok hv hrw
  have ht := typed cols row r2 (row_rw hrw) (nodes x) x (Nat.le_refl _) (exF_ok q1) q3
  have hgd := Th.ev_good (thO cols x) (th_ok cols row r2 r3 (nodes x) x (Nat.le_refl _) hx (exF_ok q1))
  have h4 := valued_all cols row r2 r3 (colsF_uniq r1) (nodes x) x (Nat.le_refl _) hx (exF_ok q1)
  rw [← exAll x] at h4
  generalize (thO cols x).ev row = A at *
  obtain ⟨v, e⟩ := A
  dsimp only at hF hgd
  repeat' first | refine zzs ?_ | refine zzb ?_ | refine zzk ?_
  refine tr_region (zzx hnt rfl ?_ (call rfl rfl rfl rfl rfl rfl rfl hnt (h4) (zzx hnt rfl ?_ (Lex.nil _)))) ?_
  · exact zza
  · exact zza
  repeat' first | refine zzs ?_ | refine zzr hnt rfl ?_ ?_ | refine zzd hnt rfl ?_ ?_ | refine zzb ?_ | refine zzk ?_
  · exact zzt
  repeat' first | refine zzs ?_ | refine zzb ?_ | refine zzk ?_
  refine tr_cond rfl (fun hc => ?_) (fun hc => ?_)
  · simp only [zz1, zz2, zz3, zz4, zz5, zz6, zz7, zz8] at hc
    have hc : e ≠ 0 := hc
    rw [if_pos hc] at hF
    subst hF
    repeat' first | refine zzs ?_ | refine zzr hnt rfl ?_ ?_ | refine zzd hnt rfl ?_ ?_ | refine zzb ?_ | refine zzk ?_
    · exact zzt
    exact tr_ret ⟨.inr rfl, _, _, rfl, zzp, rfl⟩
  simp only [zz1, zz2, zz3, zz4, zz5, zz6, zz7, zz8] at hc
  have hc : e = 0 := hc
  rw [if_neg (not_not_intro hc)] at hF
  subst hF
  have g1 : FnD Tryz.prog 109 [.one (.e (eI 2))] (.agg (.es (eVal (bV true)))) := boolOf_fn 2
  have e1 := eqCut v true
  repeat' first | refine zzs ?_ | refine zzb ?_ | refine zzk ?_
  refine tr_draw (T := tab) tOk hnt mixedR (lexD (T := tab) rfl ?_ (callD rfl rfl rfl rfl rfl rfl rfl rfl (g1) (lexD (T := tab) rfl ?_ (.nil _)))) (by first | decide +kernel | kernel_rfl) ?_
  · exact zza
  · exact zza
  refine tr_ret ⟨.inr rfl, _, _, rfl, zzp, ?_⟩
  exact congrArg (fun z : Bool => rBE2 (z, 0)) (eqCut2 v true)
end Go.Proofs.YthnadkafegmacaaGreatDoor
