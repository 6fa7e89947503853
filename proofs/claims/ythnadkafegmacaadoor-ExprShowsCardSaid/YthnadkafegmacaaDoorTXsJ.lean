/- Expressions as tokens: both sides whole. No condition. -/
import Derived.Test.YthnadkafegmacaaDoorTXsI
namespace Go.Proofs.YthnadkafegmacaaDoor
open Go Go.RowKit Go.Proofs.YthnadkafegmacaaDoor.Ab
set_option linter.unusedSimpArgs false
set_option linter.unusedVariables false

theorem chk_bool {v : Val} (h : chk v = 0) (hk : v.k = 1) : v.i = 0 ∨ v.i = 1 := by
  unfold chk at h
  repeat' split at h
  all_goals first | cases h; done | omega
theorem lvF_pos (op : Int) : 1 ≤ lvF op := by
  unfold lvF
  repeat' split
  all_goals omega
theorem shF_lo {x : Ex} {l : Int} (h : l ≤ lvF x.op) : shF x l = shX x := if_neg (by dsimp only; omega)
theorem shF_hi {x : Ex} {l : Int} (h : lvF x.op < l) : shF x l = sgT [40] :: shX x ++ [sgT [41]] := if_pos h
theorem shX_lit (v : Val) (n : Byt) : shX (.mk 1 v n []) = [ltT v] := by rw [shX_eq]; rfl
theorem shX_col (v : Val) (n : Byt) : shX (.mk 2 v n []) = [⟨1, n, 0, 0⟩] := by rw [shX_eq]; rfl
theorem shX_neg (v : Val) (n : Byt) (a : Ex) : shX (.mk 3 v n [a]) = [sgT [45]] ++ shF a (lvF 3) := by rw [shX_eq, shL_map]; rfl
theorem shX_not (v : Val) (n : Byt) (a : Ex) : shX (.mk 4 v n [a]) = [wdT [78, 79, 84]] ++ shF a (lvF 4) := by rw [shX_eq, shL_map]; rfl
theorem shX_isn (v : Val) (n : Byt) (a : Ex) : shX (.mk 17 v n [a]) = shF a 5 ++ [wdT [73, 83], wdT [78, 85, 76, 76]] := by rw [shX_eq, shL_map]; rfl
theorem shX_lng (v : Val) (n : Byt) (a : Ex) : shX (.mk 18 v n [a]) = [wdT [76, 69, 78, 71, 84, 72], sgT [40]] ++ shX a ++ [sgT [41]] := by rw [shX_eq, shL_map]; rfl
theorem shX_coa (v : Val) (n : Byt) (a b : Ex) : shX (.mk 20 v n [a, b]) = [wdT [67, 79, 65, 76, 69, 83, 67, 69], sgT [40]] ++ shX a ++ [sgT [44]] ++ shX b ++ [sgT [41]] := by rw [shX_eq, shL_map]; rfl
theorem shX_bin {op : Int} (ho : (5 ≤ op ∧ op ≤ 16) ∨ op = 19) (v : Val) (n : Byt) (a b : Ex) : shX (.mk op v n [a, b]) = shF a (left op) ++ [mkS op] ++ shF b (lvF op + 1) := by
  rw [shX_eq, shL_map]
  show shJ op v n _ = _
  unfold shJ
  rw [if_neg (by omega), if_neg (by omega), if_neg (by omega), if_neg (by omega), if_neg (by omega), if_neg (by omega), if_neg (by omega)]
  rfl
theorem len0 {ar : List Ex} {k : Int} (h : (ar.length : Int) = k) (hk : k = 0) : ar = [] := List.eq_nil_of_length_eq_zero (by omega)
theorem len1 {ar : List Ex} {k : Int} (h : (ar.length : Int) = k) (hk : k = 1) : ∃ a, ar = [a] := by
  rcases ar with _ | ⟨a, _ | ⟨b, r⟩⟩
  · simp only [List.length_nil] at h; omega
  · exact ⟨a, rfl⟩
  · simp only [List.length_cons] at h; omega
theorem len2 {ar : List Ex} {k : Int} (h : (ar.length : Int) = k) (hk : k = 2) : ∃ a b, ar = [a, b] := by
  rcases ar with _ | ⟨a, _ | ⟨b, _ | ⟨c, r⟩⟩⟩
  · simp only [List.length_nil] at h; omega
  · simp only [List.length_cons, List.length_nil] at h; omega
  · exact ⟨a, b, rfl⟩
  · simp only [List.length_cons] at h; omega
theorem want2 {op : Int} (ho : (5 ≤ op ∧ op ≤ 16) ∨ op = 19) : wantF op = 2 := by
  rcases (by omega : op = 5 ∨ op = 6 ∨ op = 7 ∨ op = 8 ∨ op = 9 ∨ op = 10 ∨ op = 11 ∨ op = 12 ∨ op = 13 ∨ op = 14 ∨ op = 15 ∨ op = 16 ∨ op = 19) with rfl | rfl | rfl | rfl | rfl | rfl | rfl | rfl | rfl | rfl | rfl | rfl | rfl <;> rfl
/-- what an operation's parts are -/
theorem shapes {x : Ex} (h : nodeF x = 0) : ∃ op v n, (op = 1 ∧ x = .mk op v n [] ∧ chk v = 0) ∨ (op = 2 ∧ x = .mk op v n []) ∨ (∃ a, (op = 3 ∨ op = 4 ∨ op = 17 ∨ op = 18) ∧ x = .mk op v n [a]) ∨ ∃ a b, (op = 20 ∨ (5 ≤ op ∧ op ≤ 16) ∨ op = 19) ∧ x = .mk op v n [a, b] := by
  obtain ⟨op, v, n, ar⟩ := x
  obtain ⟨k1, k2, k3, k4⟩ := node_ok2 h
  have k1 : 1 ≤ op := k1
  have k2 : op ≤ 20 := k2
  have k3 : (ar.length : Int) = wantF op := k3
  have k4 : op = 1 → chk v = 0 ∧ 0 ≤ v.i := k4
  refine ⟨op, v, n, ?_⟩
  by_cases h1 : op = 1
  · subst h1; exact .inl ⟨rfl, by rw [len0 k3 rfl], (k4 rfl).1⟩
  by_cases h2 : op = 2
  · subst h2; exact .inr (.inl ⟨rfl, by rw [len0 k3 rfl]⟩)
  by_cases h3 : op = 3 ∨ op = 4 ∨ op = 17 ∨ op = 18
  · obtain ⟨a, e⟩ := len1 k3 (by rcases h3 with rfl | rfl | rfl | rfl <;> rfl)
    exact .inr (.inr (.inl ⟨a, h3, by rw [e]⟩))
  · obtain ⟨a, b, e⟩ := len2 k3 (by
      by_cases h4 : op = 20
      · subst h4; rfl
      · exact want2 (by omega))
    exact .inr (.inr (.inr ⟨a, b, by omega, by rw [e]⟩))
theorem showP {x : Ex} (m : Nat) (hm : nodes x ≤ m) (h40 : nodes x ≤ 40) (hn : ndF x = 0) (ih : ∀ a ∈ x.ar, ∀ l : Int, FnD Tryd.prog 33 [.agg (.es (eEx a)), .one (.e (eI l))] (.one (.e (eTks (shF a l))))) (l : Int) (hl : l ≤ lvF x.op) : FnD Tryd.prog 33 [.agg (.es (eEx x)), .one (.e (eI l))] (.one (.e (eTks (shX x)))) := by
  have lens : ∀ a ∈ x.ar, ∀ l : Int, (shF a l).length ≤ 1000 := fun a ha l => by
    have h1 := kid_nodes (m := 40) (x := x) (by omega) ha
    have h2 := shX_len 40 a h1 (.inr trivial)
    exact shF_len (by omega) l
  obtain ⟨op, v, n, h⟩ := shapes (nd_zero2 hn).1
  rcases h with ⟨rfl, rfl, _⟩ | ⟨rfl, rfl⟩ | ⟨a, ho, rfl⟩ | ⟨a, b, ho, rfl⟩
  · rw [shX_lit]; exact show_lit l v n hl
  · rw [shX_col]; exact show_col l v n hl
  · have ia := ih a (by simp [Ex.ar])
    have la := lens a (by simp [Ex.ar])
    rcases ho with rfl | rfl | rfl | rfl
    · rw [shX_neg]; exact show_neg l v n a ia la hl
    · rw [shX_not]; exact show_not l v n a ia la hl
    · rw [shX_isn]; exact show_isn l v n a ia la hl
    · rw [shX_lng, ← shF_lo (x := a) (lvF_pos _)]; exact show_len l v n a ia la hl
  · have ia := ih a (by simp [Ex.ar])
    have la := lens a (by simp [Ex.ar])
    have ib := ih b (by simp [Ex.ar])
    have lb := lens b (by simp [Ex.ar])
    rcases ho with rfl | ho
    · rw [shX_coa, ← shF_lo (x := a) (lvF_pos _), ← shF_lo (x := b) (lvF_pos _)]; exact show_coa l v n a ia la b ib lb hl
    · rw [shX_bin ho]; exact show_bin op ho l v n a ia la b ib lb hl
theorem show_all : ∀ (m : Nat) (x : Ex), nodes x ≤ m → nodes x ≤ 40 → ndF x = 0 → ∀ l : Int, FnD Tryd.prog 33 [.agg (.es (eEx x)), .one (.e (eI l))] (.one (.e (eTks (shF x l))))
  | 0, x, h, _, _ => absurd h (by have := nodes_pos x; omega)
  | m + 1, x, h, h40, hn => fun l => by
    have hP := showP (m + 1) h h40 hn (fun a ha => show_all m a (kid_nodes h ha) (by have := kid_nodes (m := 40) (x := x) (by omega) ha; omega) ((nd_zero2 hn).2 a ha))
    by_cases hl : l ≤ lvF x.op
    · rw [shF_lo hl]
      exact hP l hl
    · rw [shF_hi (by omega)]
      have h1 := hP 1 (lvF_pos _)
      obtain ⟨k1, k2, _⟩ := node_ok2 (nd_zero2 hn).1
      have h2 := shX_len 40 x h40 (.inr trivial)
      obtain ⟨op, v, n, ar⟩ := x
      exact show_par l op v n ar (shX (.mk op v n ar)) k1 k2 h1 (by omega) (by have h3 : ¬ l ≤ lvF op := hl; omega)
theorem shown_all : ∀ (m : Nat) (x : Ex), nodes x ≤ m → nodes x ≤ 40 → ndF x = 0 → Shown x
  | 0, x, h, _, _ => absurd h (by have := nodes_pos x; omega)
  | m + 1, x, h, h40, hn => by
    have ih := fun a ha => shown_all m a (kid_nodes h ha) (by have := kid_nodes (m := 40) (x := x) (by omega) ha; omega) ((nd_zero2 hn).2 a ha)
    have ops : ∀ a ∈ x.ar, 1 ≤ a.op ∧ a.op ≤ 20 := fun a ha => by
      obtain ⟨k1, k2, _⟩ := node_ok2 (nd_zero2 ((nd_zero2 hn).2 a ha)).1
      exact ⟨k1, k2⟩
    have lens : ∀ a ∈ x.ar, (shX a).length ≤ 998 := fun a ha => by
      have h1 := kid_nodes (m := 40) (x := x) (by omega) ha
      have h2 := shX_len 40 a h1 (.inr trivial)
      omega
    unfold Shown
    obtain ⟨op, v, n, hs⟩ := shapes (nd_zero2 hn).1
    rcases hs with ⟨rfl, rfl, hc⟩ | ⟨rfl, rfl⟩ | ⟨a, ho, rfl⟩ | ⟨a, b, ho, rfl⟩
    · rw [shX_lit]; exact shown_lit v n (chk_bool hc)
    · rw [shX_col]; exact shown_col v n
    · have ia := ih a (by simp [Ex.ar])
      have la := lens a (by simp [Ex.ar])
      have pa := ops a (by simp [Ex.ar])
      rcases ho with rfl | rfl | rfl | rfl
      · rw [shX_neg]; exact shown_neg v n a pa ia la
      · rw [shX_not]; exact shown_not v n a pa ia la
      · rw [shX_isn]; exact shown_isn v n a pa ia la
      · rw [shX_lng]; exact shown_len v n a pa ia la
    · have ia := ih a (by simp [Ex.ar])
      have la := lens a (by simp [Ex.ar])
      have pa := ops a (by simp [Ex.ar])
      have ib := ih b (by simp [Ex.ar])
      have lb := lens b (by simp [Ex.ar])
      have pb := ops b (by simp [Ex.ar])
      rcases ho with rfl | ho
      · rw [shX_coa]; exact shown_coa v n a pa ia la b pb ib lb
      · rw [shX_bin ho]; exact shown_bin op ho v n a pa ia la b pb ib lb
/-- what both answer -/
def rKE (x : List Tok × Int) : D := .tup [(false, .es [eTks x.1]), (false, .es [eI x.2])]
def shR (x : Ex) : List Tok × Int := if exF x = 0 then (shX x, 0) else ([], exF x)
theorem exF_in {x : Ex} (h : exF x = 0) : nodes x ≤ 40 ∧ ndF x = 0 := by
  unfold exF at h
  split at h
  · rename_i hs; exact ⟨hs.2, h⟩
  · cases h
set_option maxRecDepth 10000 in
set_option maxHeartbeats 2000000 in
theorem Show_fn (x : Ex) (hx : exOk x) : FnG Tryd.prog 14 gK [.agg (.es (eEx x))] (rKE (shR x)) := by
  refine fn_introG (T := tab) tOk Tryd.func14 rfl (by kernel_rfl) (by simp [Tryd.ntmps14]) ?_
  intro X hX
  have hnt : X.nt = 12 := hX
  clear hX
  have hc := exprCheck_fn x hx
  have hs := fun h => show_all 40 x (exF_in h).1 (exF_in h).1 (exF_in h).2 1
  rw [shF_lo (lvF_pos _)] at hs
  have hF : shR x = shR x := rfl
  conv at hF => rhs; unfold shR
  generalize shR x = Z at *
  rw [eEx_eq] at hc hs ⊢
  repeat' first | refine zzs ?_ | refine zzb ?_ | refine zzk ?_
  first | refine zzr hnt rfl ?_ ?_ | refine zzd hnt rfl ?_ ?_
  · exact zzt
  repeat' first | refine zzs ?_ | refine zzb ?_ | refine zzk ?_
  refine tr_region (zzx hnt rfl ?_ (callV rfl rfl rfl rfl rfl rfl rfl hnt rfl (hc) (zzx hnt rfl ?_ (Lex.nil _)))) ?_
  · exact zzt
  · exact zzt
  repeat' first | refine zzs ?_ | refine zzb ?_ | refine zzk ?_
  first | refine zzr hnt rfl ?_ ?_ | refine zzd hnt rfl ?_ ?_
  · exact zzt
  repeat' first | refine zzs ?_ | refine zzb ?_ | refine zzk ?_
  refine tr_cond rfl (fun hc => ?_) (fun hc => ?_)
  · simp only [zz1, zz2, zz3, zz4, zz5, zz6, zz7, zz8] at hc
    rw [if_neg hc] at hF
    subst hF
    repeat' first | refine zzs ?_ | refine zzr hnt rfl ?_ ?_ | refine zzd hnt rfl ?_ ?_ | refine zzb ?_ | refine zzk ?_
    · exact zzt
    exact tr_ret ⟨.inr rfl, _, _, rfl, zzp, rfl⟩
  simp only [zz1, zz2, zz3, zz4, zz5, zz6, zz7, zz8] at hc
  have h0 : exF x = 0 := hc
  rw [if_pos h0] at hF
  subst hF
  have h1 := hs h0
  repeat' first | refine zzs ?_ | refine zzb ?_ | refine zzk ?_
  refine tr_region (zzx hnt rfl ?_ (call rfl rfl rfl rfl rfl rfl rfl hnt (h1) (zzx hnt rfl ?_ (Lex.nil _)))) ?_
  · exact zza
  · exact zza
  exact tr_ret ⟨.inr rfl, _, _, rfl, zzp, rfl⟩
set_option maxRecDepth 10000 in
set_option maxHeartbeats 2000000 in
theorem ExprTokens_fn (x : Ex) (hx : exOk x) : FnG Tryd.prog 15 ([(3, fsE), (4, acE), (6, spE), (2, mkE)]) [.agg (.es (eEx x))] (rKE (shR x)) := by
  refine fn_introG (T := tab) tOk Tryd.func15 rfl (by kernel_rfl) (by simp [Tryd.ntmps15]) ?_
  intro X hX
  have hnt : X.nt = 12 := hX
  clear hX
  have hc := exprFault_fn x hx
  have hs := fun h => shown_all 40 x (exF_in h).1 (exF_in h).1 (exF_in h).2
  unfold Shown at hs
  have hF : shR x = shR x := rfl
  conv at hF => rhs; unfold shR
  generalize shR x = Z at *
  rw [eEx_eq] at hc hs ⊢
  repeat' first | refine zzs ?_ | refine zzb ?_ | refine zzk ?_
  first | refine zzr hnt rfl ?_ ?_ | refine zzd hnt rfl ?_ ?_
  · exact zzt
  repeat' first | refine zzs ?_ | refine zzb ?_ | refine zzk ?_
  refine tr_region (zzx hnt rfl ?_ (callV rfl rfl rfl rfl rfl rfl rfl hnt rfl (hc) (zzx hnt rfl ?_ (Lex.nil _)))) ?_
  · exact zzt
  · exact zzt
  repeat' first | refine zzs ?_ | refine zzb ?_ | refine zzk ?_
  first | refine zzr hnt rfl ?_ ?_ | refine zzd hnt rfl ?_ ?_
  · exact zzt
  repeat' first | refine zzs ?_ | refine zzb ?_ | refine zzk ?_
  refine tr_cond rfl (fun hc => ?_) (fun hc => ?_)
  · simp only [zz1, zz2, zz3, zz4, zz5, zz6, zz7, zz8] at hc
    rw [if_neg hc] at hF
    subst hF
    repeat' first | refine zzs ?_ | refine zzr hnt rfl ?_ ?_ | refine zzd hnt rfl ?_ ?_ | refine zzb ?_ | refine zzk ?_
    · exact zzt
    exact tr_ret ⟨.inr rfl, _, _, rfl, zzp, rfl⟩
  simp only [zz1, zz2, zz3, zz4, zz5, zz6, zz7, zz8] at hc
  have h0 : exF x = 0 := hc
  rw [if_pos h0] at hF
  subst hF
  have h1 := hs h0
  repeat' first | refine zzs ?_ | refine zzb ?_ | refine zzk ?_
  refine tr_region (zzx hnt rfl ?_ (callV rfl rfl rfl rfl rfl rfl rfl hnt rfl (h1) (zzx hnt rfl ?_ (Lex.nil _)))) ?_
  · exact zza
  · exact zza
  exact tr_ret ⟨.inr rfl, _, _, rfl, zzp, rfl⟩
end Go.Proofs.YthnadkafegmacaaDoor
