/- table.Condition and the document's ConditionFault. No condition. -/
import Derived.Test.YthnadkafegmacaaGreatDoorTKoA
namespace Go.Proofs.YthnadkafegmacaaGreatDoor
open Go Go.RowKit Go.Proofs.YthnadkafegmacaaGreatDoor.Ab
set_option linter.unusedSimpArgs false
set_option linter.unusedVariables false

/-- no condition -/
def noC (x : Ex) : Prop := x.op = 0 ∧ x.n.length = 0 ∧ zv x.v ∧ x.ar.length = 0
instance (x : Ex) : Decidable (noC x) := inferInstanceAs (Decidable (_ ∧ _ ∧ _ ∧ _))
set_option maxRecDepth 10000 in
set_option maxHeartbeats 2000000 in
theorem none_fn (x : Ex) : FnD Tryz.prog 100 [.agg (.es (eEx x))] (.v (.bool (decide (noC x)))) := by
  refine fn_intro (T := tab) tOk Tryz.func100 rfl (by kernel_rfl) (by simp [Tryz.ntmps100]) ?_
  intro X hX
  have hnt : X.nt = 23 := hX
  clear hX
  have hml := exsLen x.ar
  have e1 := eqV1 x.v val0
  rw [eEx_eq]
  repeat' first | refine zzs ?_ | refine zzr hnt rfl ?_ ?_ | refine zzd hnt rfl ?_ ?_ | refine zzb ?_ | refine zzk ?_
  · exact zzt
  · exact zzt
  repeat' first | refine zzs ?_ | refine zzb ?_ | refine zzk ?_
  refine tr_ret ⟨.inr rfl, _, _, rfl, trivial, ?_⟩
  show D.v (.bool (bif bif bif decide (x.op = 0) then strEq (strB x.n) ⟨#[]⟩ else false then zvB x.v else false then decide (((eExs x.ar).length : Int) = 0) else false)) = D.v (.bool (decide (noC x)))
  rw [strEq_nil, zvB_eq, hml]
  congr 2
  refine dec_iff ?_
  simp only [zz1, zz2, zz3, zz4, zz5, zz6, zz7, zz8]
  unfold noC
  constructor
  · rintro ⟨⟨⟨k1, k2⟩, k3⟩, k4⟩
    exact ⟨k1, by first | exact k2 | exact k3, by first | exact k3 | exact k2, by omega⟩
  · rintro ⟨k1, k2, k3, k4⟩
    exact ⟨⟨⟨k1, by first | exact k2 | exact k3⟩, by first | exact k3 | exact k2⟩, by omega⟩
set_option maxRecDepth 10000 in
set_option maxHeartbeats 2000000 in
theorem noExpr_fn (x : Ex) : FnD Tryz.prog 74 [.agg (.es (eEx x))] (.v (.bool (decide (noC x)))) := by
  refine fn_intro (T := tab) tOk Tryz.func74 rfl (by kernel_rfl) (by simp [Tryz.ntmps74]) ?_
  intro X hX
  have hnt : X.nt = 23 := hX
  clear hX
  have hml := exsLen x.ar
  have e1 := eqV1 x.v val0
  rw [eEx_eq]
  repeat' first | refine zzs ?_ | refine zzr hnt rfl ?_ ?_ | refine zzd hnt rfl ?_ ?_ | refine zzb ?_ | refine zzk ?_
  · exact zzt
  · exact zzt
  repeat' first | refine zzs ?_ | refine zzb ?_ | refine zzk ?_
  refine tr_ret ⟨.inr rfl, _, _, rfl, trivial, ?_⟩
  show D.v (.bool (bif bif bif decide (x.op = 0) then zvB x.v else false then strEq (strB x.n) ⟨#[]⟩ else false then decide (((eExs x.ar).length : Int) = 0) else false)) = D.v (.bool (decide (noC x)))
  rw [strEq_nil, zvB_eq, hml]
  congr 2
  refine dec_iff ?_
  simp only [zz1, zz2, zz3, zz4, zz5, zz6, zz7, zz8]
  unfold noC
  constructor
  · rintro ⟨⟨⟨k1, k2⟩, k3⟩, k4⟩
    exact ⟨k1, by first | exact k2 | exact k3, by first | exact k3 | exact k2, by omega⟩
  · rintro ⟨k1, k2, k3, k4⟩
    exact ⟨⟨⟨k1, by first | exact k2 | exact k3⟩, by first | exact k3 | exact k2⟩, by omega⟩
theorem nodeF_chk {x : Ex} (h : nodeF x = 0) (h1 : x.op = 1) : chk x.v = 0 := by
  unfold nodeF at h
  rw [if_neg (by omega)] at h
  by_cases g1 : (x.ar.length : Int) ≠ wantF x.op
  · rw [if_pos g1] at h; exact absurd h (by decide)
  rw [if_neg g1] at h
  split at h
  · exact absurd h (by decide)
  · split at h
    · exact absurd h (by decide)
    · split at h
      · exact absurd h (by decide)
      · rename_i g
        exact Classical.not_not.1 fun hn => g ⟨h1, .inl hn⟩
theorem chk_k {v : Val} (h : chk v = 0) : 0 ≤ v.k := by
  unfold chk at h
  by_cases g : v.k < 0 ∨ 4 < v.k
  · rw [if_pos g] at h; exact absurd h (by decide)
  · omega
theorem clF_k : ∀ (r p : List Colm), clF p r = 0 → ∀ c ∈ r, 0 ≤ c.k
  | [], _, _ => fun c hc => absurd hc List.not_mem_nil
  | c :: r, p, h => by
    rw [clF] at h
    split at h
    · exact absurd h (by decide)
    · split at h
      · exact absurd h (by decide)
      · rename_i g
        split at h
        · exact absurd h (by decide)
        · intro d hd
          rcases List.mem_cons.1 hd with rfl | hd
          · omega
          · exact clF_k r _ h d hd
theorem colsF_k {l : List Colm} (h : colsF l = 0) : ∀ c ∈ l, 0 ≤ c.k := by
  unfold colsF at h
  split at h
  · exact absurd h (by decide)
  · exact clF_k l [] h
theorem kdA_nn (l : List Colm) : ∀ (ar : List Ex) (ss : List Srt), (∀ a ∈ ar, 0 ≤ (kdF l a).1) → (∀ s ∈ ss, 0 ≤ s.1) → ∀ s ∈ (kdA l ss ar).2, 0 ≤ s.1
  | [], ss, _, hs => by rw [kdA]; exact hs
  | a :: r, ss, ha, hs => by
    rw [kdA]
    split
    · exact fun s h => absurd h List.not_mem_nil
    · refine kdA_nn l r _ (fun b hb => ha b (List.mem_cons_of_mem _ hb)) fun s h => ?_
      rcases List.mem_append.1 h with h | h
      · exact hs s h
      · rw [List.mem_singleton.1 h]; exact ha a List.mem_cons_self
theorem akF_nn (k g : Int) (hg : 0 ≤ g) : ∀ (l : List Srt) (u : Bool), 0 ≤ (akF k g u l).1
  | [], u => hg
  | x :: r, u => by
    rw [akF]
    split
    · exact Int.le_refl 0
    · exact akF_nn k g hg r _
theorem getD_nn {ss : List Srt} (h : ∀ s ∈ ss, 0 ≤ s.1) (i : Nat) : 0 ≤ (ss.getD i s0).1 := by
  by_cases hi : i < ss.length
  · exact h _ (getD_mem hi)
  · rw [List.getD_eq_getElem?_getD, List.getElem?_eq_none (by omega)]; exact Int.le_refl 0
theorem joF_nn (op : Int) (ss : List Srt) (h : ∀ s ∈ ss, 0 ≤ s.1) : 0 ≤ (joF op ss).1 := by
  have h0 := getD_nn h 0
  have h1 := getD_nn h 1
  have hw : 0 ≤ (wiF (ss.getD 0 s0) (ss.getD 1 s0)).1 := by unfold wiF; dsimp only; split <;> assumption
  unfold joF
  split
  · exact akF_nn _ _ (by decide) _ _
  split
  · exact akF_nn _ _ (by decide) _ _
  split
  · exact akF_nn _ _ (by decide) _ _
  split
  · exact akF_nn _ _ (by decide) _ _
  split
  · exact (by decide : (0 : Int) ≤ 1)
  unfold twF
  split
  · exact Int.le_refl 0
  split
  · exact hw
  · exact (by decide : (0 : Int) ≤ 1)
theorem kdF_nn (l : List Colm) (hl : ∀ c ∈ l, 0 ≤ c.k) : ∀ (m : Nat) (x : Ex), nodes x ≤ m → ndF x = 0 → 0 ≤ (kdF l x).1
  | 0, x, h, _ => absurd h (by have := nodes_pos x; omega)
  | m + 1, x, h, hn => by
    rw [kdF_eq]
    split
    · rename_i h1
      exact chk_k (nodeF_chk (ndF_zero hn).1 h1)
    split
    · unfold fndF
      cases hf : l.find? (fun c => decide (c.n = x.n)) with
      | some c => exact hl c (List.mem_of_find?_eq_some hf)
      | none => exact Int.le_refl 0
    split
    · exact Int.le_refl 0
    · exact joF_nn _ _ (kdA_nn l x.ar [] (fun a ha => kdF_nn l hl m a (kid_nodes h ha) (ndF_kid hn a ha)) fun s hs => absurd hs List.not_mem_nil)
theorem koF_nn (x : Ex) (l : List Colm) : 0 ≤ (koF x l).1 := by
  unfold koF
  split
  · exact Int.le_refl 0
  · rename_i h1
    split
    · exact Int.le_refl 0
    · rename_i h2
      exact kdF_nn l (colsF_k (Classical.not_not.1 h2)) (nodes x) x (Nat.le_refl _) (exF_nd (Classical.not_not.1 h1))
def cdF (x : Ex) (l : List Colm) : Int := if noC x then colsF l else if (koF x l).2.2 = 0 ∧ 1 < (koF x l).1 then 2 else (koF x l).2.2
set_option maxRecDepth 10000 in
set_option maxHeartbeats 2000000 in
theorem Condition_fn (x : Ex) (l : List Colm) (h : exOk x) (hn : ∀ c ∈ l, c.n.length ≤ maxLen) : FnG Tryz.prog 35 gK [.agg (.es (eEx x)), .one (.e (eCols l))] (.one (.e (eI (cdF x l)))) := by
  refine fn_introG (T := tab) tOk Tryz.func35 rfl (by kernel_rfl) (by simp [Tryz.ntmps35]) ?_
  intro X hX
  have hnt : X.nt = 30 := hX
  clear hX
  have h0 := none_fn x
  have h1 := columns_fn l hn
  have h2 := Of_fn x l h hn
  have hk := koF_nn x l
  have hx7 := ex7 x
  have f2 : 0 + 7 ≤ (Cs.es (eEx x)).len := by show 0 + 7 ≤ (eEx x).length; rw [hx7]; exact Nat.le_refl _
  unfold cdF
  rw [← exAll x] at h0 h2
  generalize koF x l = r at *
  repeat' first | refine zzs ?_ | refine zzr hnt rfl ?_ ?_ | refine zzd hnt rfl ?_ ?_ | refine zzb ?_ | refine zzk ?_
  · exact zzt
  repeat' first | refine zzs ?_ | refine zzb ?_ | refine zzk ?_
  refine tr_region (zzx hnt rfl ?_ (call rfl rfl rfl rfl rfl rfl rfl hnt (h0) (zzx hnt rfl ?_ (Lex.nil _)))) ?_
  · exact zza
  · exact zzt
  repeat' first | refine zzs ?_ | refine zzb ?_ | refine zzk ?_
  refine tr_cond rfl (fun hc => ?_) (fun hc => ?_)
  · rw [if_pos (of_decide_eq_true hc)]
    repeat' first | refine zzs ?_ | refine zzb ?_ | refine zzk ?_
    refine tr_region (zzx hnt rfl ?_ (callV rfl rfl rfl rfl rfl rfl rfl hnt rfl (h1) (zzx hnt rfl ?_ (Lex.nil _)))) ?_
    · exact zzt
    · exact zzt
    repeat' first | refine zzs ?_ | refine zzb ?_ | refine zzk ?_
    exact tr_ret ⟨.inr rfl, _, _, rfl, trivial, rfl⟩
  rw [if_neg (of_decide_eq_false hc)]
  repeat' first | refine zzs ?_ | refine zzb ?_ | refine zzk ?_
  refine tr_region (zzx hnt rfl ?_ (callV rfl rfl rfl rfl rfl rfl rfl hnt rfl (h2) (zzx hnt rfl ?_ (Lex.nil _)))) ?_
  · exact zza
  · exact zzt
  repeat' first | refine zzs ?_ | refine zzb ?_ | refine zzk ?_
  first | refine zzr hnt rfl ?_ ?_ | refine zzd hnt rfl ?_ ?_
  · exact zza
  repeat' first | refine zzs ?_ | refine zzb ?_ | refine zzk ?_
  refine tr_cond rfl (fun hc => ?_) (fun hc => ?_)
  · have hc : (bif bif decide (r.2.2 = 0) then !decide (r.1 = 1) else false then !decide (r.1 = 0) else false) = true := hc
    simp only [zz1, zz2, zz3, zz4, zz5, zz6, zz7, zz8] at hc
    rw [if_pos (by omega)]
    repeat' first | refine zzs ?_ | refine zzr hnt rfl ?_ ?_ | refine zzd hnt rfl ?_ ?_ | refine zzb ?_ | refine zzk ?_
    · exact zzt
    exact tr_ret ⟨.inr rfl, _, _, rfl, trivial, rfl⟩
  have hc : (bif bif decide (r.2.2 = 0) then !decide (r.1 = 1) else false then !decide (r.1 = 0) else false) = false := hc
  simp only [zz1, zz2, zz3, zz4, zz5, zz6, zz7, zz8] at hc
  rw [if_neg (by omega)]
  repeat' first | refine zzs ?_ | refine zzr hnt rfl ?_ ?_ | refine zzd hnt rfl ?_ ?_ | refine zzb ?_ | refine zzk ?_
  · exact zzt
  exact tr_ret ⟨.inr rfl, _, _, rfl, trivial, rfl⟩
set_option maxRecDepth 10000 in
set_option maxHeartbeats 2000000 in
theorem conditionFault_fn (x : Ex) (l : List Colm) (h : exOk x) (hn : ∀ c ∈ l, c.n.length ≤ maxLen) : FnG Tryz.prog 38 gK [.agg (.es (eEx x)), .one (.e (eCols l))] (.one (.e (eI (cdF x l)))) := by
  refine fn_introG (T := tab) tOk Tryz.func38 rfl (by kernel_rfl) (by simp [Tryz.ntmps38]) ?_
  intro X hX
  have hnt : X.nt = 24 := hX
  clear hX
  have h0 := noExpr_fn x
  have h1 := columnsFault_fn l hn
  have h2 := KindOf_fn x l h hn
  have hx7 := ex7 x
  have f2 : 0 + 7 ≤ (Cs.es (eEx x)).len := by show 0 + 7 ≤ (eEx x).length; rw [hx7]; exact Nat.le_refl _
  unfold cdF
  rw [← exAll x] at h0 h2
  generalize koF x l = r at *
  repeat' first | refine zzs ?_ | refine zzr hnt rfl ?_ ?_ | refine zzd hnt rfl ?_ ?_ | refine zzb ?_ | refine zzk ?_
  · exact zzt
  repeat' first | refine zzs ?_ | refine zzb ?_ | refine zzk ?_
  refine tr_region (zzx hnt rfl ?_ (call rfl rfl rfl rfl rfl rfl rfl hnt (h0) (zzx hnt rfl ?_ (Lex.nil _)))) ?_
  · exact zza
  · exact zzt
  repeat' first | refine zzs ?_ | refine zzb ?_ | refine zzk ?_
  refine tr_cond rfl (fun hc => ?_) (fun hc => ?_)
  · rw [if_pos (of_decide_eq_true hc)]
    repeat' first | refine zzs ?_ | refine zzb ?_ | refine zzk ?_
    refine tr_region (zzx hnt rfl ?_ (call rfl rfl rfl rfl rfl rfl rfl hnt (h1) (zzx hnt rfl ?_ (Lex.nil _)))) ?_
    · exact zzt
    · exact zzt
    repeat' first | refine zzs ?_ | refine zzb ?_ | refine zzk ?_
    exact tr_ret ⟨.inr rfl, _, _, rfl, trivial, rfl⟩
  rw [if_neg (of_decide_eq_false hc)]
  repeat' first | refine zzs ?_ | refine zzb ?_ | refine zzk ?_
  refine tr_region (zzx hnt rfl ?_ (callV rfl rfl rfl rfl rfl rfl rfl hnt rfl (h2) (zzx hnt rfl ?_ (Lex.nil _)))) ?_
  · exact zza
  · exact zzt
  repeat' first | refine zzs ?_ | refine zzr hnt rfl ?_ ?_ | refine zzd hnt rfl ?_ ?_ | refine zzb ?_ | refine zzk ?_
  · exact zzt
  repeat' first | refine zzs ?_ | refine zzb ?_ | refine zzk ?_
  refine tr_cond rfl (fun hc => ?_) (fun hc => ?_)
  · have hc : (!decide (r.2.2 = 0)) = true := hc
    simp only [zz1, zz2, zz3, zz4, zz5, zz6, zz7, zz8] at hc
    rw [if_neg (by omega)]
    repeat' first | refine zzs ?_ | refine zzr hnt rfl ?_ ?_ | refine zzd hnt rfl ?_ ?_ | refine zzb ?_ | refine zzk ?_
    · exact zzt
    exact tr_ret ⟨.inr rfl, _, _, rfl, trivial, rfl⟩
  have hc : (!decide (r.2.2 = 0)) = false := hc
  simp only [zz1, zz2, zz3, zz4, zz5, zz6, zz7, zz8] at hc
  have h0 : r.2.2 = 0 := by omega
  repeat' first | refine zzs ?_ | refine zzr hnt rfl ?_ ?_ | refine zzd hnt rfl ?_ ?_ | refine zzb ?_ | refine zzk ?_
  · exact zzt
  repeat' first | refine zzs ?_ | refine zzb ?_ | refine zzk ?_
  refine tr_cond rfl (fun hc => ?_) (fun hc => ?_)
  · have hc : decide (1 < r.1) = true := hc
    simp only [zz1, zz2, zz3, zz4, zz5, zz6, zz7, zz8] at hc
    rw [if_pos ⟨h0, hc⟩]
    repeat' first | refine zzs ?_ | refine zzr hnt rfl ?_ ?_ | refine zzd hnt rfl ?_ ?_ | refine zzb ?_ | refine zzk ?_
    · exact zzt
    exact tr_ret ⟨.inr rfl, _, _, rfl, trivial, rfl⟩
  have hc : decide (1 < r.1) = false := hc
  simp only [zz1, zz2, zz3, zz4, zz5, zz6, zz7, zz8] at hc
  rw [if_neg (by omega), h0]
  repeat' first | refine zzs ?_ | refine zzr hnt rfl ?_ ?_ | refine zzd hnt rfl ?_ ?_ | refine zzb ?_ | refine zzk ?_
  · exact zzt
  exact tr_ret ⟨.inr rfl, _, _, rfl, trivial, rfl⟩
end Go.Proofs.YthnadkafegmacaaGreatDoor
