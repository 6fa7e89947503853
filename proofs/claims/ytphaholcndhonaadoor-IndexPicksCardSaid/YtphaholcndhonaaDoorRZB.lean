/- Trees: the plain law of TreeChecks, its first part: sizes. No condition. -/
import Derived.Test.YtphaholcndhonaaDoorRZA
namespace Go.Proofs.YtphaholcndhonaaDoor.Tr
open Go Go.RowKit Go.Proofs.YtphaholcndhonaaDoor.Ab
set_option linter.unusedSimpArgs false
set_option linter.unusedVariables false

theorem chA_big (t : List Nd) : ∀ (k i a : Nat), 100 < a → chA t k i a = false
  | 0, i, a, h => decide_eq_false (by omega)
  | k + 1, i, a, h => by
    rw [chA]
    split
    · rfl
    split
    · rfl
    exact chA_big t k (i + 1) _ (by omega)
theorem ch_rm (t : List Nd) : ∀ (k i a : Nat), a ≤ 100 → chA t k i a = rmA t k i (100 - (a : Int))
  | 0, i, a, h => decide_eq_true h
  | k + 1, i, a, h => by
    rw [chA, rmA]
    by_cases h1 : (100 - (a : Int)) < ((t.getD i nd0).k.length : Int)
    · rw [if_pos h1]
      split
      · rfl
      split
      · rfl
      exact chA_big t k (i + 1) _ (by omega)
    · rw [if_neg h1]
      split
      · rfl
      rw [if_neg (by omega), ch_rm t k (i + 1) _ (by omega)]
      congr 1
      omega
/-- what is left to show: when the sizes are right, both say the same of the rest -/
theorem chk_prs_of (t : List Nd) (h : t.length ≤ 100 → chA t t.length 0 0 = true → (match stA t t.length 0 (zI t.length) with | some dp => ordF t dp | none => 3) = (if t.length = 0 then ([], 0) else
    if lsA (inF t t.length 0 (zI t.length)).1.1 ((inF t t.length 0 (zI t.length)).1.1.length - 1) 1 (oneA (inF t t.length 0 (zI t.length)).2 t.length 0 (inF t t.length 0 (zI t.length)).1.2.2) = false then ([], 3) else ((inF t t.length 0 (zI t.length)).1.1, 0) : Prs × Int).2) : chkF t = (prsF t).2 := by
  unfold chkF prsF
  by_cases h1 : 100 < t.length
  · rw [if_pos h1, if_pos h1]
  rw [if_neg h1, if_neg h1]
  have e := ch_rm t t.length 0 0 (by omega)
  rw [show (100 : Int) - ((0 : Nat) : Int) = 100 from rfl] at e
  rw [← e]
  cases hc : chA t t.length 0 0 with
  | false => rw [if_pos rfl, if_pos rfl]
  | true =>
    rw [if_neg (by decide), if_neg (by decide)]
    exact h (by omega) hc
/-- what inner counts: how often each node is come to -/
def cnt (l : List Int) (q : Int) : Int := (l.count q : Int)
end Go.Proofs.YtphaholcndhonaaDoor.Tr
namespace Go.Proofs.YtphaholcndhonaaDoor.Tr
open Go Go.RowKit Go.Proofs.YtphaholcndhonaaDoor.Ab
set_option linter.unusedSimpArgs false
set_option linter.unusedVariables false

def sumR (f : Nat → Int) : Nat → Int
  | 0 => 0
  | n + 1 => sumR f n + f n
theorem sumR_add (f g : Nat → Int) : ∀ n, sumR (fun i => f i + g i) n = sumR f n + sumR g n
  | 0 => rfl
  | n + 1 => by rw [sumR, sumR, sumR, sumR_add f g n]; omega
theorem sumR_zero : ∀ (f : Nat → Int) (n : Nat), (∀ i, i < n → f i = 0) → sumR f n = 0
  | f, 0, _ => rfl
  | f, n + 1, h => by rw [sumR, sumR_zero f n fun i hi => h i (by omega), h n (by omega)]; rfl
theorem sumR_one (g : Nat → Int) (a : Nat) : ∀ n, sumR (fun i => if i = a then g i else 0) n = if a < n then g a else 0
  | 0 => rfl
  | n + 1 => by
    rw [sumR, sumR_one g a n]
    by_cases h : n = a
    · subst h; rw [if_neg (by omega), if_pos rfl, if_pos (by omega)]; omega
    · rw [if_neg h]
      by_cases h2 : a < n
      · rw [if_pos h2, if_pos (by omega)]; omega
      · rw [if_neg h2, if_neg (by omega)]; rfl
theorem sumR_congr {f g : Nat → Int} : ∀ {n : Nat}, (∀ i, i < n → f i = g i) → sumR f n = sumR g n
  | 0, _ => rfl
  | n + 1, h => by rw [sumR, sumR, sumR_congr fun i hi => h i (by omega), h n (by omega)]
/-- how often nodes of v have q as a kid -/
def inD (t : List Nd) (v : Nat → Int) (q : Nat) : Int := sumR (fun i => v i * ((t.getD i nd0).c.count (q : Int) : Int)) t.length
theorem inD_add (t : List Nd) (v w : Nat → Int) (q : Nat) : inD t (fun i => v i + w i) q = inD t v q + inD t w q := by
  unfold inD
  rw [← sumR_add]
  exact sumR_congr fun i _ => Int.add_mul _ _ _
def dif (sn sn' : List Int) (q : Nat) : Int := sn'.getD q 0 - sn.getD q 0
theorem inD_dif (t : List Nd) (a b c : List Int) (q : Nat) : inD t (dif a c) q = inD t (dif a b) q + inD t (dif b c) q := by
  rw [← inD_add]
  unfold inD
  refine sumR_congr fun i _ => ?_
  have h : dif a c i = dif a b i + dif b c i := by unfold dif; omega
  show dif a c i * _ = (dif a b i + dif b c i) * _
  rw [h]
theorem inD_self (t : List Nd) (a : List Int) (q : Nat) : inD t (dif a a) q = 0 := sumR_zero _ _ fun i _ => by
  show (a.getD i 0 - a.getD i 0) * _ = 0
  rw [Int.sub_self, Int.zero_mul]
theorem inL_cnt (t : List Nd) (rec : Nat → List Int → IR) (hrec : ∀ a sn, (rec a sn).1.2.2 = true → sn.length = t.length → ∀ q, dif sn (rec a sn).2 q = (if q = a then 1 else 0) + inD t (dif sn (rec a sn).2) q)
    (hlen : ∀ a sn, (rec a sn).2.length = sn.length) (at_ : Nat) (n : Nd) (hc : n.c = [] ∨ n.c.length = n.k.length + 1) :
    ∀ (r i : Nat) (sn : List Int) (out : Prs) (d : Int), r + i = n.k.length + 1 → sn.length = t.length → (inL t rec at_ n r i sn out d).1.2.2 = true → ∀ q : Nat, dif sn (inL t rec at_ n r i sn out d).2 q = ((n.c.drop i).count (q : Int) : Int) + inD t (dif sn (inL t rec at_ n r i sn out d).2) q
  | 0, i, sn, out, d, hr, hs, ho, q => by
    show dif sn sn q = _ + inD t (dif sn sn) q
    have : n.c.drop i = [] := List.drop_eq_nil_of_le (by rcases hc with h | h <;> simp [h] <;> omega)
    rw [inD_self, this]
    unfold dif
    simp
  | r + 1, i, sn, out, d, hr, hs, ho, q => by
    unfold inL at ho ⊢
    by_cases h0 : n.c.length = 0
    · rw [if_pos h0] at ho ⊢
      have h := inL_cnt t rec hrec hlen at_ n hc r (i + 1) sn _ d (by omega) hs ho q
      have e : n.c = [] := List.eq_nil_of_length_eq_zero h0
      rw [h, e]
      simp
    rw [if_neg h0] at ho ⊢
    by_cases h1 : n.c.getD i 0 ≤ (at_ : Int) ∨ (t.length : Int) ≤ n.c.getD i 0
    · rw [if_pos h1] at ho; cases ho
    rw [if_neg h1] at ho ⊢
    have hil : i < n.c.length := by rcases hc with h | h <;> simp [h] at h0 ⊢ <;> omega
    have hdr : n.c.drop i = n.c.getD i 0 :: n.c.drop (i + 1) := by
      rw [List.drop_eq_getElem_cons hil, List.getD_eq_getElem?_getD, List.getElem?_eq_getElem hil]
      rfl
    have hr0 := hrec (n.c.getD i 0).toNat sn
    have hl0 := hlen (n.c.getD i 0).toNat sn
    generalize hx : rec (n.c.getD i 0).toNat sn = x at *
    by_cases h2 : x.1.2.2 = false ∨ (0 < i ∧ x.1.2.1 ≠ d)
    · rw [if_pos h2] at ho; cases ho
    rw [if_neg h2] at ho ⊢
    have hxt : x.1.2.2 = true := by cases hv : x.1.2.2 with | true => rfl | false => exact absurd (Or.inl hv) h2
    have hk := hr0 hxt hs q
    have h := inL_cnt t rec hrec hlen at_ n hc r (i + 1) x.2 _ _ (by omega) (hl0.trans hs) ho q
    generalize (inL t rec at_ n r (i + 1) x.2 _ _).2 = fin at *
    rw [inD_dif t sn x.2 fin q, hdr, List.count_cons]
    have hd : dif sn fin q = dif sn x.2 q + dif x.2 fin q := by unfold dif; omega
    have hb : (if q = (n.c.getD i 0).toNat then (1 : Int) else 0) = (if (n.c.getD i 0 == (q : Int)) = true then 1 else 0) := by
      by_cases e : q = (n.c.getD i 0).toNat
      · rw [if_pos e, if_pos (by rw [beq_iff_eq]; omega)]
      · rw [if_neg e, if_neg (by rw [beq_iff_eq]; omega)]
    rw [hd, hk, h, hb]
    split <;> simp <;> omega
theorem inF_len (t : List Nd) (f a : Nat) (sn : List Int) : (inF t f a sn).2.length = sn.length := (inF_ok t f a sn).len
theorem inF_cnt (t : List Nd) : ∀ (f a : Nat) (sn : List Int), (inF t f a sn).1.2.2 = true → sn.length = t.length → ∀ q : Nat, dif sn (inF t f a sn).2 q = (if q = a then 1 else 0) + inD t (dif sn (inF t f a sn).2) q
  | 0, a, sn, h, _, q => nomatch h
  | f + 1, a, sn, h, hs, q => by
    unfold inF at h ⊢
    by_cases hb : badN (t.getD a nd0) ∨ 1 < (sn.set a (sn.getD a 0 + 1)).getD a 0
    · rw [if_pos hb] at h; cases h
    rw [if_neg hb] at h ⊢
    have hb1 : ¬ badN (t.getD a nd0) := fun h => hb (.inl h)
    have hlt := nd_in hb1
    obtain ⟨e1, e2, e3, e4⟩ := not_bad hb1
    have hk := inL_cnt t (inF t f) (inF_cnt t f) (inF_len t f) a (t.getD a nd0) e4 _ 0 (sn.set a (sn.getD a 0 + 1)) [] 0 rfl (by rw [List.length_set]; exact hs) h q
    generalize (inL t (inF t f) a (t.getD a nd0) ((t.getD a nd0).k.length + 1) 0 (sn.set a (sn.getD a 0 + 1)) [] 0).2 = fin at *
    have hd : ∀ p, dif sn (sn.set a (sn.getD a 0 + 1)) p = if p = a then 1 else 0 := fun p => by
      unfold dif
      rw [getD_set]
      by_cases hp : p = a
      · subst hp; rw [if_pos ⟨rfl, by omega⟩, if_pos rfl]; omega
      · rw [if_neg (fun h => hp h.1.symm), if_neg hp]; omega
    have hs1 : inD t (dif sn (sn.set a (sn.getD a 0 + 1))) q = ((t.getD a nd0).c.count (q : Int) : Int) := by
      unfold inD
      rw [show (fun i => dif sn (sn.set a (sn.getD a 0 + 1)) i * ((t.getD i nd0).c.count (q : Int) : Int)) = fun i => if i = a then ((t.getD i nd0).c.count (q : Int) : Int) else 0 from funext fun i => by
        rw [hd]; split <;> simp]
      rw [sumR_one (fun i => ((t.getD i nd0).c.count (q : Int) : Int)) a, if_pos hlt]
    rw [inD_dif t sn (sn.set a (sn.getD a 0 + 1)) fin q, hs1]
    have hdq : dif sn fin q = dif sn (sn.set a (sn.getD a 0 + 1)) q + dif (sn.set a (sn.getD a 0 + 1)) fin q := by unfold dif; omega
    rw [hdq, hd, hk, List.drop_zero]
end Go.Proofs.YtphaholcndhonaaDoor.Tr
namespace Go.Proofs.YtphaholcndhonaaDoor.Tr
open Go Go.RowKit Go.Proofs.YtphaholcndhonaaDoor.Ab
set_option linter.unusedSimpArgs false
set_option linter.unusedVariables false

theorem prS_kid (t : List Nd) (p : Nat → Prs) (n : Nd) (i : Nat) (hi : i < n.k.length) : (if n.c.length = 0 then [] else p (n.c.getD i 0).toNat) ++ prI n i = prS t p n i := by
  unfold prS prI
  rw [if_pos hi]
theorem inL_prs (t : List Nd) (rec : Nat → List Int → IR) (p : Nat → Prs) (hrec : ∀ a sn, (rec a sn).1.2.2 = true → (rec a sn).1.1 = p a) (at_ : Nat) (n : Nd) :
    ∀ (r i : Nat) (sn : List Int) (out : Prs) (d : Int), r + i = n.k.length + 1 → (inL t rec at_ n r i sn out d).1.2.2 = true → out = prP t p n i → 0 < r →
      (inL t rec at_ n r i sn out d).1.1 = prP t p n n.k.length ++ (if n.c.length = 0 then [] else p (n.c.getD n.k.length 0).toNat)
  | 0, i, sn, out, d, hr, ho, he, h0 => absurd h0 (Nat.lt_irrefl _)
  | r + 1, i, sn, out, d, hr, ho, he, _ => by
    unfold inL at ho ⊢
    have hend : ∀ (sn' : List Int) (o : Prs) (d' : Int), r = 0 → (inL t rec at_ n r (i + 1) sn' o d').1.1 = o := fun sn' o d' h => by subst h; rfl
    by_cases h0 : n.c.length = 0
    · rw [if_pos h0] at ho ⊢
      by_cases hi : i < n.k.length
      · refine inL_prs t rec p hrec at_ n r (i + 1) sn _ d (by omega) ho ?_ (by omega)
        rw [prP_succ, he, ← prS_kid t p n i hi, if_pos h0, List.nil_append]
      · rw [hend _ _ _ (by omega), he, if_pos h0]
        have : i = n.k.length := by omega
        unfold prI
        rw [if_neg hi, this]
    rw [if_neg h0] at ho ⊢
    by_cases h1 : n.c.getD i 0 ≤ (at_ : Int) ∨ (t.length : Int) ≤ n.c.getD i 0
    · rw [if_pos h1] at ho; cases ho
    rw [if_neg h1] at ho ⊢
    have hr0 := hrec (n.c.getD i 0).toNat sn
    generalize rec (n.c.getD i 0).toNat sn = x at *
    by_cases h2 : x.1.2.2 = false ∨ (0 < i ∧ x.1.2.1 ≠ d)
    · rw [if_pos h2] at ho; cases ho
    rw [if_neg h2] at ho ⊢
    have hxt : x.1.2.2 = true := by cases hv : x.1.2.2 with | true => rfl | false => exact absurd (Or.inl hv) h2
    have hx := hr0 hxt
    by_cases hi : i < n.k.length
    · refine inL_prs t rec p hrec at_ n r (i + 1) x.2 _ _ (by omega) ho ?_ (by omega)
      rw [prP_succ, he, hx, List.append_assoc, ← prS_kid t p n i hi, if_neg h0]
    · rw [hend _ _ _ (by omega), he, hx, if_neg h0]
      have : i = n.k.length := by omega
      unfold prI
      rw [if_neg hi, this, List.append_nil]
theorem inF_prs (t : List Nd) : ∀ (f a : Nat) (sn : List Int), (inF t f a sn).1.2.2 = true → (inF t f a sn).1.1 = prF t f a
  | 0, a, sn, h => nomatch h
  | f + 1, a, sn, h => by
    unfold inF at h ⊢
    by_cases hb : badN (t.getD a nd0) ∨ 1 < (sn.set a (sn.getD a 0 + 1)).getD a 0
    · rw [if_pos hb] at h; cases h
    rw [if_neg hb] at h ⊢
    exact inL_prs t (inF t f) (prF t f) (inF_prs t f) a (t.getD a nd0) _ 0 _ [] 0 rfl h rfl (Nat.succ_pos _)
end Go.Proofs.YtphaholcndhonaaDoor.Tr
namespace Go.Proofs.YtphaholcndhonaaDoor.Tr
open Go Go.RowKit Go.Proofs.YtphaholcndhonaaDoor.Ab
set_option linter.unusedSimpArgs false
set_option linter.unusedVariables false

theorem foO_ls (l : Prs) : ∀ (k j : Nat) (b : Bool), 1 ≤ j → j + k = l.length → (foO (b, false, (l.getD (j - 1) pr0).1) (l.drop j)).1 = lsA l k j b
  | 0, j, b, h1, h2 => by
    rw [List.drop_eq_nil_of_le (by omega)]
    rfl
  | k + 1, j, b, h1, h2 => by
    have hj : j < l.length := by omega
    have e : l.drop j = l.getD j pr0 :: l.drop (j + 1) := by
      rw [List.drop_eq_getElem_cons hj, List.getD_eq_getElem?_getD, List.getElem?_eq_getElem hj]
      rfl
    have ih := foO_ls l k (j + 1) (bif b then decide (cmpT (l.getD (j - 1) pr0).1 (l.getD j pr0).1 < 0) else false) (by omega) (by omega)
    rw [Nat.add_sub_cancel] at ih
    rw [e, lsA, ← ih]
    show (foO (stO (b, false, (l.getD (j - 1) pr0).1) (l.getD j pr0).1) (l.drop (j + 1))).1 = _
    unfold stO
    rw [strLt_cmp]
    rfl
theorem foO_rise (l : Prs) (b : Bool) (x : List UInt8) : (foO (b, true, x) l).1 = lsA l (l.length - 1) 1 b := by
  cases l with
  | nil => rfl
  | cons p r =>
    have h := foO_ls (p :: r) r.length 1 b (Nat.le_refl _) (by rw [List.length_cons]; omega)
    rw [List.length_cons, Nat.add_sub_cancel, ← h]
    show (foO (stO (b, true, x) p.1) r).1 = (foO (b, false, p.1) r).1
    unfold stO
    cases b <;> rfl
theorem lsA_false (l : Prs) : ∀ (k j : Nat), lsA l k j false = false
  | 0, _ => rfl
  | k + 1, j => lsA_false l k (j + 1)
theorem oneA_iff (sn : List Int) : ∀ (k j : Nat) (b : Bool), oneA sn k j b = true ↔ b = true ∧ ∀ q, j ≤ q → q < j + k → sn.getD q 0 = 1
  | 0, j, b => ⟨fun h => ⟨h, fun q h1 h2 => absurd h2 (by omega)⟩, fun h => h.1⟩
  | k + 1, j, b => by
    rw [oneA, oneA_iff sn k (j + 1)]
    constructor
    · rintro ⟨h1, h2⟩
      cases b with
      | false => cases h1
      | true =>
        refine ⟨rfl, fun q h3 h4 => ?_⟩
        by_cases hq : q = j
        · subst hq; exact of_decide_eq_true h1
        · exact h2 q (by omega) (by omega)
    · rintro ⟨rfl, h⟩
      exact ⟨decide_eq_true (h j (Nat.le_refl _) (by omega)), fun q h3 h4 => h q (by omega) (by omega)⟩
end Go.Proofs.YtphaholcndhonaaDoor.Tr
namespace Go.Proofs.YtphaholcndhonaaDoor.Tr
open Go Go.RowKit Go.Proofs.YtphaholcndhonaaDoor.Ab
set_option linter.unusedSimpArgs false
set_option linter.unusedVariables false

/-- the shapes: both say the same -/
def ShEq (t : List Nd) : Prop := (∃ dp, stA t t.length 0 (zI t.length) = some dp ∧ ordA t dp t.length 0 (-1) = true) ↔ ((inF t t.length 0 (zI t.length)).1.2.2 = true ∧ ∀ q, q < t.length → (inF t t.length 0 (zI t.length)).2.getD q 0 = 1)
theorem chk_prs (t : List Nd) (hS : 0 < t.length → t.length ≤ 100 → ShEq t) : chkF t = (prsF t).2 := by
  refine chk_prs_of t fun hl hc => ?_
  by_cases h0 : t.length = 0
  · rw [if_pos h0]
    rw [List.eq_nil_of_length_eq_zero h0]
    rfl
  rw [if_neg h0]
  have hS := hS (by omega) hl
  unfold ShEq at hS
  have hpr := inF_prs t t.length 0 (zI t.length)
  have h1 := oneA_iff (inF t t.length 0 (zI t.length)).2 t.length 0 (inF t t.length 0 (zI t.length)).1.2.2
  have hT : ordT t = lsA (prF t t.length 0) ((prF t t.length 0).length - 1) 1 true := by
    unfold ordT
    rw [if_neg h0]
    exact foO_rise _ _ _
  generalize inF t t.length 0 (zI t.length) = x at *
  by_cases hx : x.1.2.2 = true ∧ ∀ q, q < t.length → x.2.getD q 0 = 1
  · obtain ⟨dp, e1, e2⟩ := hS.2 hx
    have o1 : oneA x.2 t.length 0 x.1.2.2 = true := h1.2 ⟨hx.1, fun q _ h => hx.2 q (by omega)⟩
    rw [e1, o1, hpr hx.1]
    show ordF t dp = _
    unfold ordF
    rw [e2, if_neg (by decide), hT]
    split <;> rfl
  · have o1 : oneA x.2 t.length 0 x.1.2.2 = false := by
      cases hv : oneA x.2 t.length 0 x.1.2.2 with
      | false => rfl
      | true => exact absurd ⟨(h1.1 hv).1, fun q h => (h1.1 hv).2 q (Nat.zero_le _) (by omega)⟩ hx
    rw [o1, lsA_false, if_pos rfl]
    cases e1 : stA t t.length 0 (zI t.length) with
    | none => rfl
    | some dp =>
      show ordF t dp = 3
      unfold ordF
      cases e2 : ordA t dp t.length 0 (-1) with
      | false => rfl
      | true => exact absurd (hS.1 ⟨dp, e1, e2⟩) hx
end Go.Proofs.YtphaholcndhonaaDoor.Tr
namespace Go.Proofs.YtphaholcndhonaaDoor.Tr
open Go Go.RowKit Go.Proofs.YtphaholcndhonaaDoor.Ab
set_option linter.unusedSimpArgs false
set_option linter.unusedVariables false

def gdN (t : List Nd) (q : Nat) : Prop := ¬ badN (t.getD q nd0) ∧ kdN t q
theorem inL_good (t : List Nd) (rec : Nat → List Int → IR) (hrec : ∀ a sn, (rec a sn).1.2.2 = true → ∀ q, dif sn (rec a sn).2 q ≠ 0 → gdN t q) (at_ : Nat) (n : Nd) (hc : n.c = [] ∨ n.c.length = n.k.length + 1) :
    ∀ (r i : Nat) (sn : List Int) (out : Prs) (d : Int), r + i = n.k.length + 1 → (inL t rec at_ n r i sn out d).1.2.2 = true →
      (∀ q, dif sn (inL t rec at_ n r i sn out d).2 q ≠ 0 → gdN t q) ∧ ∀ j, i ≤ j → j < n.c.length → (at_ : Int) < n.c.getD j 0 ∧ n.c.getD j 0 < (t.length : Int)
  | 0, i, sn, out, d, hr, ho => ⟨fun q h => absurd (show dif sn sn q = 0 by unfold dif; omega) h, fun j h1 h2 => by
    rcases hc with h | h
    · rw [h] at h2; cases h2
    · omega⟩
  | r + 1, i, sn, out, d, hr, ho => by
    unfold inL at ho ⊢
    by_cases h0 : n.c.length = 0
    · rw [if_pos h0] at ho ⊢
      refine ⟨(inL_good t rec hrec at_ n hc r (i + 1) sn _ d (by omega) ho).1, fun j h1 h2 => absurd h2 (by omega)⟩
    rw [if_neg h0] at ho ⊢
    by_cases h1 : n.c.getD i 0 ≤ (at_ : Int) ∨ (t.length : Int) ≤ n.c.getD i 0
    · rw [if_pos h1] at ho; cases ho
    rw [if_neg h1] at ho ⊢
    have hr0 := hrec (n.c.getD i 0).toNat sn
    generalize rec (n.c.getD i 0).toNat sn = x at *
    by_cases h2 : x.1.2.2 = false ∨ (0 < i ∧ x.1.2.1 ≠ d)
    · rw [if_pos h2] at ho; cases ho
    rw [if_neg h2] at ho ⊢
    have hxt : x.1.2.2 = true := by cases hv : x.1.2.2 with | true => rfl | false => exact absurd (Or.inl hv) h2
    obtain ⟨k1, k2⟩ := inL_good t rec hrec at_ n hc r (i + 1) x.2 _ _ (by omega) ho
    refine ⟨fun q hq => ?_, fun j h3 h4 => ?_⟩
    · by_cases h5 : dif sn x.2 q = 0
      · refine k1 q fun h6 => hq ?_
        unfold dif at h5 h6 ⊢
        omega
      · exact hr0 hxt q h5
    · by_cases hj : j = i
      · subst hj; omega
      · exact k2 j (by omega) h4
theorem inF_good (t : List Nd) : ∀ (f a : Nat) (sn : List Int), (inF t f a sn).1.2.2 = true → ∀ q, dif sn (inF t f a sn).2 q ≠ 0 → gdN t q
  | 0, a, sn, h, q, _ => nomatch h
  | f + 1, a, sn, h, q, hq => by
    unfold inF at h hq
    by_cases hb : badN (t.getD a nd0) ∨ 1 < (sn.set a (sn.getD a 0 + 1)).getD a 0
    · rw [if_pos hb] at h; cases h
    rw [if_neg hb] at h hq
    have hb1 : ¬ badN (t.getD a nd0) := fun h => hb (.inl h)
    obtain ⟨e1, e2, e3, e4⟩ := not_bad hb1
    obtain ⟨k1, k2⟩ := inL_good t (inF t f) (inF_good t f) a (t.getD a nd0) e4 _ 0 (sn.set a (sn.getD a 0 + 1)) [] 0 rfl h
    by_cases ha : q = a
    · subst ha
      refine ⟨hb1, fun k hk => ?_⟩
      obtain ⟨p, hp, rfl⟩ := List.mem_iff_getElem.1 hk
      have := k2 p (Nat.zero_le _) hp
      rw [List.getD_eq_getElem?_getD, List.getElem?_eq_getElem hp] at this
      exact this
    · refine k1 q fun h6 => hq ?_
      unfold dif at h6 ⊢
      rw [getD_set, if_neg (fun h => ha h.1.symm)] at h6
      exact h6
end Go.Proofs.YtphaholcndhonaaDoor.Tr
namespace Go.Proofs.YtphaholcndhonaaDoor.Tr
open Go Go.RowKit Go.Proofs.YtphaholcndhonaaDoor.Ab
set_option linter.unusedSimpArgs false
set_option linter.unusedVariables false

theorem getD_mem {l : List Int} {j : Nat} (h : j < l.length) : l.getD j 0 ∈ l := by
  rw [List.getD_eq_getElem?_getD, List.getElem?_eq_getElem h]
  exact List.getElem_mem h
/-- how often q is a kid of the nodes ahead of i -/
def cK (t : List Nd) (i : Nat) (q : Nat) : Nat := ((List.range i).map fun x => (t.getD x nd0).c.count (q : Int)).sum
theorem cK_succ (t : List Nd) (i q : Nat) : cK t (i + 1) q = cK t i q + (t.getD i nd0).c.count (q : Int) := by
  unfold cK
  rw [List.range_succ, List.map_append, List.sum_append]
  simp
theorem cK_mono (t : List Nd) (q : Nat) : ∀ {i j : Nat}, i ≤ j → cK t i q ≤ cK t j q := fun {i j} h => by
  induction h with
  | refl => exact Nat.le_refl _
  | step _ ih => rw [cK_succ]; omega
def mkd (t : List Nd) (i : Nat) (c : List Int) (dp : List Int) : Prop := dp.length = t.length ∧ ∀ q, q < t.length → 0 ≤ dp.getD q 0 ∧ (0 < dp.getD q 0 ↔ 0 < cK t i q + c.count (q : Int))
theorem kdA_some (t : List Nd) (i : Nat) (hi : i < t.length) (hk : kdN t i) (hu : ∀ q, q < t.length → cK t t.length q ≤ 1) :
    ∀ (k j : Nat) (dp : List Int), j + k = (t.getD i nd0).c.length → mkd t i ((t.getD i nd0).c.take j) dp → ∃ dp', kdA t i (t.getD i nd0).c k j dp = some dp' ∧ mkd t i (t.getD i nd0).c dp'
  | 0, j, dp, hj, hm => ⟨dp, rfl, by rwa [List.take_of_length_le (by omega)] at hm⟩
  | k + 1, j, dp, hj, hm => by
    have hjl : j < (t.getD i nd0).c.length := by omega
    have hts := takeS (l := (t.getD i nd0).c) (d := 0) hjl
    have hmem : (t.getD i nd0).c.getD j 0 ∈ (t.getD i nd0).c := getD_mem hjl
    obtain ⟨h1, h2⟩ := hk _ hmem
    have hcc : (t.getD i nd0).c = (t.getD i nd0).c.take (j + 1) ++ (t.getD i nd0).c.drop (j + 1) := (List.take_append_drop ..).symm
    have hcount : ∀ q : Nat, (t.getD i nd0).c.count (q : Int) = ((t.getD i nd0).c.take (j + 1)).count (q : Int) + ((t.getD i nd0).c.drop (j + 1)).count (q : Int) := fun q => by rw [← List.count_append, ← hcc]
    obtain ⟨m1, m2⟩ := hm
    rw [kdA]
    obtain ⟨q, hq⟩ : ∃ q : Nat, (t.getD i nd0).c.getD j 0 = (q : Int) := ⟨((t.getD i nd0).c.getD j 0).toNat, by omega⟩
    rw [hq] at hts h1 h2 ⊢
    rw [Int.toNat_natCast]
    have hql : q < t.length := by omega
    have hone : (((t.getD i nd0).c.take (j + 1)).count (q : Int)) = ((t.getD i nd0).c.take j).count (q : Int) + 1 := by
      rw [hts, List.count_append, List.count_singleton_self]
    have hz : cK t i q + ((t.getD i nd0).c.take j).count (q : Int) = 0 := by
      have a1 := cK_mono t q (show i + 1 ≤ t.length by omega)
      rw [cK_succ, hcount, hone] at a1
      have := hu q hql
      omega
    have hdq : ¬ 0 < dp.getD q 0 := fun h => by
      have := (m2 q hql).2.1 h
      omega
    rw [if_neg (by omega)]
    refine kdA_some t i hi hk hu k (j + 1) _ (by omega) ⟨by rw [List.length_set]; exact m1, fun p hp => ?_⟩
    rw [getD_set]
    have hi0 := (m2 i hi).1
    by_cases e : q = p
    · subst e
      rw [if_pos ⟨rfl, by omega⟩, hone]
      exact ⟨by omega, by omega⟩
    · rw [if_neg (fun h => e h.1), hts, List.count_append]
      have : List.count (p : Int) [(q : Int)] = 0 := List.count_eq_zero.2 (by simp; omega)
      rw [this]
      exact m2 p hp
theorem stA_some (t : List Nd) (hg : ∀ i, i < t.length → gdN t i) (hu : ∀ q, q < t.length → cK t t.length q ≤ 1) :
    ∀ (k i : Nat) (dp : List Int), i + k = t.length → mkd t i [] dp → ∃ dp', stA t k i dp = some dp' ∧ mkd t t.length [] dp'
  | 0, i, dp, hi, hm => ⟨dp, rfl, by obtain rfl : i = t.length := by omega
                                     exact hm⟩
  | k + 1, i, dp, hi, hm => by
    obtain ⟨g1, g2⟩ := hg i (by omega)
    rw [stA, if_neg g1]
    obtain ⟨d1, e1, e2⟩ := kdA_some t i (by omega) g2 hu (t.getD i nd0).c.length 0 dp (by omega) hm
    rw [e1]
    refine stA_some t hg hu k (i + 1) d1 (by omega) ⟨e2.1, fun q hq => ?_⟩
    have := e2.2 q hq
    rw [cK_succ]
    exact this
end Go.Proofs.YtphaholcndhonaaDoor.Tr
namespace Go.Proofs.YtphaholcndhonaaDoor.Tr
open Go Go.RowKit Go.Proofs.YtphaholcndhonaaDoor.Ab
set_option linter.unusedSimpArgs false
set_option linter.unusedVariables false

theorem sumR_cK (t : List Nd) (q : Nat) : ∀ n, sumR (fun i => 1 * ((t.getD i nd0).c.count (q : Int) : Int)) n = (cK t n q : Int)
  | 0 => rfl
  | n + 1 => by rw [sumR, sumR_cK t q n, cK_succ]; omega
theorem zI_get (n q : Nat) : (zI n).getD q 0 = 0 := by
  unfold zI
  rw [List.getD_eq_getElem?_getD, List.getElem?_replicate]
  split <;> rfl
theorem cK_of (t : List Nd) (ho : (inF t t.length 0 (zI t.length)).1.2.2 = true) (h1 : ∀ q, q < t.length → (inF t t.length 0 (zI t.length)).2.getD q 0 = 1) {q : Nat} (hq : q < t.length) : cK t t.length q = if q = 0 then 0 else 1 := by
  have h := inF_cnt t t.length 0 (zI t.length) ho List.length_replicate q
  have hd : ∀ p, p < t.length → dif (zI t.length) (inF t t.length 0 (zI t.length)).2 p = 1 := fun p hp => by
    unfold dif
    rw [h1 p hp, zI_get]
    rfl
  have hs : inD t (dif (zI t.length) (inF t t.length 0 (zI t.length)).2) q = (cK t t.length q : Int) := by
    rw [← sumR_cK]
    unfold inD
    exact sumR_congr fun i hi => by rw [hd i hi]
  rw [hs, hd q hq] at h
  split
  · rename_i h0; rw [if_pos h0] at h; omega
  · rename_i h0; rw [if_neg h0] at h; omega
theorem gd_of (t : List Nd) (ho : (inF t t.length 0 (zI t.length)).1.2.2 = true) (h1 : ∀ q, q < t.length → (inF t t.length 0 (zI t.length)).2.getD q 0 = 1) {q : Nat} (hq : q < t.length) : gdN t q :=
  inF_good t t.length 0 (zI t.length) ho q (by unfold dif; rw [h1 q hq, zI_get]; decide)
theorem stA_of (t : List Nd) (ho : (inF t t.length 0 (zI t.length)).1.2.2 = true) (h1 : ∀ q, q < t.length → (inF t t.length 0 (zI t.length)).2.getD q 0 = 1) : ∃ dp, stA t t.length 0 (zI t.length) = some dp ∧ mkd t t.length [] dp :=
  stA_some t (fun i hi => gd_of t ho h1 hi) (fun q hq => by rw [cK_of t ho h1 hq]; split <;> decide) t.length 0 (zI t.length) (Nat.zero_add _) ⟨List.length_replicate, fun q hq => by
    rw [zI_get]
    have : cK t 0 q = 0 := rfl
    rw [this]
    simp⟩
end Go.Proofs.YtphaholcndhonaaDoor.Tr
namespace Go.Proofs.YtphaholcndhonaaDoor.Tr
open Go Go.RowKit Go.Proofs.YtphaholcndhonaaDoor.Ab
set_option linter.unusedSimpArgs false
set_option linter.unusedVariables false

theorem kdA_pm (t : List Nd) (i : Nat) (c : List Int) : ∀ (k j : Nat) (dp dp' : List Int), dp.length = t.length → 0 ≤ dp.getD i 0 → kdA t i c k j dp = some dp' → dp'.length = t.length ∧
    (∀ p, 0 < dp.getD p 0 → dp'.getD p 0 = dp.getD p 0) ∧ (∀ p, p ≤ i → dp'.getD p 0 = dp.getD p 0) ∧ ∀ j', j ≤ j' → j' < j + k → dp'.getD (c.getD j' 0).toNat 0 = dp.getD i 0 + 1
  | 0, j, dp, dp', hl, h0, h => by
    cases h
    exact ⟨hl, fun _ _ => rfl, fun _ _ => rfl, fun j' h1 h2 => absurd h2 (by omega)⟩
  | k + 1, j, dp, dp', hl, h0, h => by
    rw [kdA] at h
    split at h
    · cases h
    rename_i hc
    obtain ⟨q, hq⟩ : ∃ q : Nat, c.getD j 0 = (q : Int) := ⟨(c.getD j 0).toNat, by omega⟩
    rw [hq, Int.toNat_natCast] at h hc
    have hs : ∀ p, (dp.set q (dp.getD i 0 + 1)).getD p 0 = if q = p ∧ p < dp.length then dp.getD i 0 + 1 else dp.getD p 0 := fun p => getD_set ..
    have hi : (dp.set q (dp.getD i 0 + 1)).getD i 0 = dp.getD i 0 := by rw [hs, if_neg (by omega)]
    obtain ⟨a1, a2, a3, a4⟩ := kdA_pm t i c k (j + 1) _ dp' (by rw [List.length_set]; exact hl) (by rw [hi]; exact h0) h
    rw [hi] at a4
    refine ⟨a1, fun p hp => ?_, fun p hp => ?_, fun j' h1 h2 => ?_⟩
    · have e : (dp.set q (dp.getD i 0 + 1)).getD p 0 = dp.getD p 0 := by
        rw [hs, if_neg]
        rintro ⟨rfl, _⟩
        omega
      rw [a2 p (by rw [e]; exact hp), e]
    · rw [a3 p hp, hs, if_neg (by omega)]
    · by_cases hj : j' = j
      · subst hj
        have e : (dp.set q (dp.getD i 0 + 1)).getD q 0 = dp.getD i 0 + 1 := by rw [hs, if_pos ⟨rfl, by omega⟩]
        rw [hq, Int.toNat_natCast, a2 q (by rw [e]; omega), e]
      · exact a4 j' (by omega) (by omega)
def nnL (dp : List Int) : Prop := ∀ q, 0 ≤ dp.getD q 0
theorem kdA_nn (t : List Nd) (i : Nat) (c : List Int) : ∀ (k j : Nat) (dp dp' : List Int), nnL dp → kdA t i c k j dp = some dp' → nnL dp'
  | 0, j, dp, dp', hn, h => by cases h; exact hn
  | k + 1, j, dp, dp', hn, h => by
    rw [kdA] at h
    split at h
    · cases h
    refine kdA_nn t i c k (j + 1) _ dp' (fun p => ?_) h
    rw [getD_set]
    have := hn i
    split
    · omega
    · exact hn p
theorem stA_pm (t : List Nd) : ∀ (k i : Nat) (dp dp' : List Int), i + k = t.length → dp.length = t.length → nnL dp → (∀ x, x < i → ∀ c ∈ (t.getD x nd0).c, dp.getD c.toNat 0 = dp.getD x 0 + 1) → stA t k i dp = some dp' →
    nnL dp' ∧ ∀ x, x < t.length → ∀ c ∈ (t.getD x nd0).c, dp'.getD c.toNat 0 = dp'.getD x 0 + 1
  | 0, i, dp, dp', hi, hl, hn, hp, h => by
    cases h
    exact ⟨hn, fun x hx => hp x (by omega)⟩
  | k + 1, i, dp, dp', hi, hl, hn, hp, h => by
    rw [stA] at h
    split at h
    · cases h
    split at h
    · rename_i d1 e1
      obtain ⟨a1, a2, a3, a4⟩ := kdA_pm t i _ _ 0 dp d1 hl (hn i) e1
      refine stA_pm t k (i + 1) d1 dp' (by omega) a1 (kdA_nn t i _ _ 0 dp d1 hn e1) (fun x hx c hc => ?_) h
      by_cases hxi : x = i
      · subst hxi
        obtain ⟨p, hpl, rfl⟩ := List.mem_iff_getElem.1 hc
        have := a4 p (Nat.zero_le _) (by omega)
        rw [a3 x (Nat.le_refl _)]
        have e : (t.getD x nd0).c.getD p 0 = (t.getD x nd0).c[p] := by
          rw [List.getD_eq_getElem?_getD (l := (t.getD x nd0).c), List.getElem?_eq_getElem hpl]
          rfl
        rw [e] at this
        exact this
      · have h0 := hp x (by omega) c hc
        have h1 := hn x
        rw [a2 c.toNat (by omega), a3 x (by omega), h0]
    · cases h
end Go.Proofs.YtphaholcndhonaaDoor.Tr
namespace Go.Proofs.YtphaholcndhonaaDoor.Tr
open Go Go.RowKit Go.Proofs.YtphaholcndhonaaDoor.Ab
set_option linter.unusedSimpArgs false
set_option linter.unusedVariables false

def lfA (t : List Nd) (dp : List Int) (sn sn' : List Int) (v : Int) : Prop := ∀ q : Nat, dif sn sn' q ≠ 0 → (t.getD q nd0).c.length = 0 → dp.getD q 0 = v
theorem inL_deep (t : List Nd) (dp : List Int) (rec : Nat → List Int → IR) (hrec : ∀ a sn, (rec a sn).1.2.2 = true → lfA t dp sn (rec a sn).2 (dp.getD a 0 + (rec a sn).1.2.1 - 1)) (at_ : Nat) (n : Nd) (hk : ∀ c ∈ n.c, dp.getD c.toNat 0 = dp.getD at_ 0 + 1) (hc : n.c.length = n.k.length + 1) :
    ∀ (r i : Nat) (sn : List Int) (out : Prs) (d : Int), r + i = n.k.length + 1 → (inL t rec at_ n r i sn out d).1.2.2 = true →
      (0 < i → (inL t rec at_ n r i sn out d).1.2.1 = d + 1) ∧ lfA t dp sn (inL t rec at_ n r i sn out d).2 (dp.getD at_ 0 + (inL t rec at_ n r i sn out d).1.2.1 - 1)
  | 0, i, sn, out, d, hr, ho => ⟨fun _ => rfl, fun q h => absurd (show dif sn sn q = 0 by unfold dif; omega) h⟩
  | r + 1, i, sn, out, d, hr, ho => by
    unfold inL at ho ⊢
    have h0 : ¬ n.c.length = 0 := by omega
    rw [if_neg h0] at ho ⊢
    by_cases h1 : n.c.getD i 0 ≤ (at_ : Int) ∨ (t.length : Int) ≤ n.c.getD i 0
    · rw [if_pos h1] at ho; cases ho
    rw [if_neg h1] at ho ⊢
    have hr0 := hrec (n.c.getD i 0).toNat sn
    have hki := hk _ (getD_mem (show i < n.c.length by omega))
    generalize rec (n.c.getD i 0).toNat sn = x at *
    by_cases h2 : x.1.2.2 = false ∨ (0 < i ∧ x.1.2.1 ≠ d)
    · rw [if_pos h2] at ho; cases ho
    rw [if_neg h2] at ho ⊢
    have hxt : x.1.2.2 = true := by cases hv : x.1.2.2 with | true => rfl | false => exact absurd (Or.inl hv) h2
    obtain ⟨k1, k2⟩ := inL_deep t dp rec hrec at_ n hk hc r (i + 1) x.2 _ _ (by omega) ho
    have k1 := k1 (Nat.succ_pos _)
    refine ⟨fun hi => ?_, fun q hq hl => ?_⟩
    · rw [k1]
      have : x.1.2.1 = d := Classical.byContradiction fun h => h2 (.inr ⟨hi, h⟩)
      omega
    · by_cases h5 : dif sn x.2 q = 0
      · exact k2 q (fun h6 => hq (by unfold dif at h5 h6 ⊢; omega)) hl
      · rw [hr0 hxt q h5 hl, hki, k1]
        omega
theorem inL_leaf (t : List Nd) (rec : Nat → List Int → IR) (at_ : Nat) (n : Nd) (h0 : n.c.length = 0) : ∀ (r i : Nat) (sn : List Int) (out : Prs) (d : Int), (inL t rec at_ n r i sn out d).1.2.1 = d + 1 ∧ (inL t rec at_ n r i sn out d).2 = sn
  | 0, i, sn, out, d => ⟨rfl, rfl⟩
  | r + 1, i, sn, out, d => by
    unfold inL
    rw [if_pos h0]
    exact inL_leaf t rec at_ n h0 r (i + 1) sn _ d
theorem inF_deep (t : List Nd) (dp : List Int) (hp : ∀ x, x < t.length → ∀ c ∈ (t.getD x nd0).c, dp.getD c.toNat 0 = dp.getD x 0 + 1) : ∀ (f a : Nat) (sn : List Int), (inF t f a sn).1.2.2 = true → lfA t dp sn (inF t f a sn).2 (dp.getD a 0 + (inF t f a sn).1.2.1 - 1)
  | 0, a, sn, h => nomatch h
  | f + 1, a, sn, h => by
    intro q hq hl
    unfold inF at h hq ⊢
    by_cases hb : badN (t.getD a nd0) ∨ 1 < (sn.set a (sn.getD a 0 + 1)).getD a 0
    · rw [if_pos hb] at h; cases h
    rw [if_neg hb] at h hq ⊢
    have hb1 : ¬ badN (t.getD a nd0) := fun h => hb (.inl h)
    obtain ⟨e1, e2, e3, e4⟩ := not_bad hb1
    have hd : q ≠ a → dif sn (inL t (inF t f) a (t.getD a nd0) ((t.getD a nd0).k.length + 1) 0 (sn.set a (sn.getD a 0 + 1)) [] 0).2 q = dif (sn.set a (sn.getD a 0 + 1)) (inL t (inF t f) a (t.getD a nd0) ((t.getD a nd0).k.length + 1) 0 (sn.set a (sn.getD a 0 + 1)) [] 0).2 q := fun ha => by
      unfold dif
      rw [getD_set, if_neg (fun h => ha h.1.symm)]
    by_cases h0 : (t.getD a nd0).c.length = 0
    · obtain ⟨k1, k2⟩ := inL_leaf t (inF t f) a (t.getD a nd0) h0 ((t.getD a nd0).k.length + 1) 0 (sn.set a (sn.getD a 0 + 1)) [] 0
      by_cases ha : q = a
      · subst ha; rw [k1]; omega
      · rw [hd ha, k2] at hq
        exact absurd (by unfold dif; omega) hq
    · have hc : (t.getD a nd0).c.length = (t.getD a nd0).k.length + 1 := by
        rcases e4 with e4 | e4
        · rw [e4] at h0; exact absurd rfl h0
        · exact e4
      obtain ⟨_, k2⟩ := inL_deep t dp (inF t f) (inF_deep t dp hp f) a (t.getD a nd0) (hp a (nd_in hb1)) hc _ 0 (sn.set a (sn.getD a 0 + 1)) [] 0 rfl h
      by_cases ha : q = a
      · subst ha; exact absurd hl h0
      · exact k2 q (by rw [← hd ha]; exact hq) hl
end Go.Proofs.YtphaholcndhonaaDoor.Tr
namespace Go.Proofs.YtphaholcndhonaaDoor.Tr
open Go Go.RowKit Go.Proofs.YtphaholcndhonaaDoor.Ab
set_option linter.unusedSimpArgs false
set_option linter.unusedVariables false

theorem ordA_of (t : List Nd) (dp : List Int) (v : Int) : ∀ (k i : Nat) (lf : Int), (∀ q, i ≤ q → q < i + k → (0 < q → dp.getD q 0 ≠ 0) ∧ ((t.getD q nd0).c.length = 0 → dp.getD q 0 = v)) → (lf < 0 ∨ lf = v) → ordA t dp k i lf = true
  | 0, i, lf, _, _ => rfl
  | k + 1, i, lf, h, hl => by
    have h0 := h i (Nat.le_refl _) (by omega)
    have hn := fun lf' hlf => ordA_of t dp v k (i + 1) lf' (fun q h1 h2 => h q (by omega) (by omega)) hlf
    rw [ordA, if_neg (fun hh => h0.1 hh.1 hh.2)]
    split
    · rename_i hc
      have e := h0.2 hc
      rw [if_neg (by omega)]
      exact hn _ (.inr e)
    · exact hn _ hl
theorem sh_right (t : List Nd) (ht : 0 < t.length) (ho : (inF t t.length 0 (zI t.length)).1.2.2 = true) (h1 : ∀ q, q < t.length → (inF t t.length 0 (zI t.length)).2.getD q 0 = 1) : ∃ dp, stA t t.length 0 (zI t.length) = some dp ∧ ordA t dp t.length 0 (-1) = true := by
  obtain ⟨dp, e1, e2⟩ := stA_of t ho h1
  have hz : nnL (zI t.length) := fun q => by rw [zI_get]; exact Int.le_refl _
  obtain ⟨p1, p2⟩ := stA_pm t t.length 0 (zI t.length) dp (Nat.zero_add _) List.length_replicate hz (fun x hx => absurd hx (Nat.not_lt_zero _)) e1
  have hd := inF_deep t dp p2 t.length 0 (zI t.length) ho
  refine ⟨dp, e1, ordA_of t dp _ t.length 0 (-1) (fun q _ hq => ⟨fun h0 => ?_, fun hl => hd q (by unfold dif; rw [h1 q (by omega), zI_get]; decide) hl⟩) (.inl (by decide))⟩
  have := (e2.2 q (by omega)).2.2 (by rw [cK_of t ho h1 (by omega), if_neg (by omega)]; exact Nat.one_pos)
  omega
end Go.Proofs.YtphaholcndhonaaDoor.Tr
namespace Go.Proofs.YtphaholcndhonaaDoor.Tr
open Go Go.RowKit Go.Proofs.YtphaholcndhonaaDoor.Ab
set_option linter.unusedSimpArgs false
set_option linter.unusedVariables false

theorem kdA_inv (t : List Nd) (i : Nat) (hi : i < t.length) (c : List Int) :
    ∀ (k j : Nat) (dp dp' : List Int), j + k = c.length → mkd t i (c.take j) dp → (∀ q, q < t.length → cK t i q + (c.take j).count (q : Int) ≤ 1) → kdA t i c k j dp = some dp' →
      mkd t i c dp' ∧ (∀ q, q < t.length → cK t i q + c.count (q : Int) ≤ 1) ∧ ∀ p, j ≤ p → p < c.length → (i : Int) < c.getD p 0 ∧ c.getD p 0 < (t.length : Int)
  | 0, j, dp, dp', hj, hm, hu, h => by
    cases h
    rw [List.take_of_length_le (by omega)] at hm hu
    exact ⟨hm, hu, fun p h1 h2 => absurd h2 (by omega)⟩
  | k + 1, j, dp, dp', hj, hm, hu, h => by
    have hjl : j < c.length := by omega
    have hts := takeS (l := c) (d := 0) hjl
    rw [kdA] at h
    split at h
    · cases h
    rename_i hc
    obtain ⟨q, hq⟩ : ∃ q : Nat, c.getD j 0 = (q : Int) := ⟨(c.getD j 0).toNat, by omega⟩
    have hq2 : c.getD j 0 = (q : Int) := hq
    rw [hq] at hts hc h
    rw [Int.toNat_natCast] at h hc
    have hql : q < t.length := by omega
    obtain ⟨m1, m2⟩ := hm
    have hi0 := (m2 i hi).1
    have hone : (c.take (j + 1)).count (q : Int) = (c.take j).count (q : Int) + 1 := by
      rw [hts, List.count_append, List.count_singleton_self]
    have hz : cK t i q + (c.take j).count (q : Int) = 0 := by
      have := (m2 q hql).2
      omega
    have hoth : ∀ p : Nat, p ≠ q → (c.take (j + 1)).count (p : Int) = (c.take j).count (p : Int) := fun p hp => by
      rw [hts, List.count_append]
      have : List.count (p : Int) [(q : Int)] = 0 := List.count_eq_zero.2 (by simp; omega)
      rw [this]
      rfl
    obtain ⟨a1, a2, a3⟩ := kdA_inv t i hi c k (j + 1) _ dp' (by omega) ⟨by rw [List.length_set]; exact m1, fun p hp => by
      rw [getD_set]
      by_cases e : q = p
      · subst e
        rw [if_pos ⟨rfl, by omega⟩, hone]
        exact ⟨by omega, by omega⟩
      · rw [if_neg (fun h => e h.1), hoth p (fun h => e h.symm)]
        exact m2 p hp⟩ (fun p hp => by
      by_cases e : p = q
      · subst e; rw [hone]; omega
      · rw [hoth p e]; exact hu p hp) h
    refine ⟨a1, a2, fun p h1 h2 => ?_⟩
    by_cases e : p = j
    · subst e; rw [hq2]; omega
    · exact a3 p (by omega) h2
theorem stA_inv (t : List Nd) : ∀ (k i : Nat) (dp dp' : List Int), i + k = t.length → mkd t i [] dp → (∀ q, q < t.length → cK t i q ≤ 1) → stA t k i dp = some dp' →
    mkd t t.length [] dp' ∧ (∀ q, q < t.length → cK t t.length q ≤ 1) ∧ ∀ x, i ≤ x → x < t.length → gdN t x
  | 0, i, dp, dp', hi, hm, hu, h => by
    cases h
    obtain rfl : i = t.length := by omega
    exact ⟨hm, hu, fun x h1 h2 => absurd h2 (by omega)⟩
  | k + 1, i, dp, dp', hi, hm, hu, h => by
    rw [stA] at h
    split at h
    · cases h
    rename_i hb
    split at h
    · rename_i d1 e1
      obtain ⟨a1, a2, a3⟩ := kdA_inv t i (by omega) _ _ 0 dp d1 (by omega) hm (fun q hq => by
        have := hu q hq
        simpa using this) e1
      obtain ⟨b1, b2, b3⟩ := stA_inv t k (i + 1) d1 dp' (by omega) ⟨a1.1, fun q hq => by
        rw [cK_succ]
        exact a1.2 q hq⟩ (fun q hq => by rw [cK_succ]; exact a2 q hq) h
      refine ⟨b1, b2, fun x h1 h2 => ?_⟩
      by_cases e : x = i
      · subst e
        refine ⟨hb, fun c hc => ?_⟩
        obtain ⟨p, hp, rfl⟩ := List.mem_iff_getElem.1 hc
        have := a3 p (Nat.zero_le _) hp
        rw [List.getD_eq_getElem?_getD, List.getElem?_eq_getElem hp] at this
        exact this
      · exact b3 x (by omega) h2
    · cases h
theorem ordA_inv (t : List Nd) (dp : List Int) (hn : nnL dp) : ∀ (k i : Nat) (lf : Int), ordA t dp k i lf = true → ∃ v, (0 ≤ lf → v = lf) ∧ ∀ q, i ≤ q → q < i + k → (0 < q → dp.getD q 0 ≠ 0) ∧ ((t.getD q nd0).c.length = 0 → dp.getD q 0 = v)
  | 0, i, lf, _ => ⟨lf, fun _ => rfl, fun q h1 h2 => absurd h2 (by omega)⟩
  | k + 1, i, lf, h => by
    rw [ordA] at h
    split at h
    · cases h
    rename_i hp
    split at h
    · rename_i hc
      split at h
      · cases h
      rename_i hl
      obtain ⟨v, h1, h2⟩ := ordA_inv t dp hn k (i + 1) _ h
      have hv := h1 (hn i)
      refine ⟨v, fun h0 => ?_, fun q h3 h4 => ?_⟩
      · rw [hv]; exact Classical.byContradiction fun e => hl ⟨h0, e⟩
      · by_cases e : q = i
        · subst e; exact ⟨fun h0 he => hp ⟨h0, he⟩, fun _ => hv.symm⟩
        · exact h2 q (by omega) (by omega)
    · rename_i hc
      obtain ⟨v, h1, h2⟩ := ordA_inv t dp hn k (i + 1) _ h
      refine ⟨v, h1, fun q h3 h4 => ?_⟩
      by_cases e : q = i
      · subst e; exact ⟨fun h0 he => hp ⟨h0, he⟩, fun h0 => absurd h0 hc⟩
      · exact h2 q (by omega) (by omega)
theorem cK_ex (t : List Nd) (q : Nat) : ∀ i, 0 < cK t i q → ∃ x, x < i ∧ (q : Int) ∈ (t.getD x nd0).c
  | 0, h => absurd h (Nat.lt_irrefl _)
  | i + 1, h => by
    rw [cK_succ] at h
    by_cases h1 : 0 < cK t i q
    · obtain ⟨x, h2, h3⟩ := cK_ex t q i h1
      exact ⟨x, by omega, h3⟩
    · exact ⟨i, by omega, List.count_pos_iff.1 (by omega)⟩
end Go.Proofs.YtphaholcndhonaaDoor.Tr
namespace Go.Proofs.YtphaholcndhonaaDoor.Tr
open Go Go.RowKit Go.Proofs.YtphaholcndhonaaDoor.Ab
set_option linter.unusedSimpArgs false
set_option linter.unusedVariables false

/-- ways from a to q, of fewer than f steps -/
def pC (t : List Nd) : Nat → Nat → Nat → Int
  | 0, _, _ => 0
  | f + 1, a, q => (if q = a then 1 else 0) + ((t.getD a nd0).c.map fun c => pC t f c.toNat q).sum
def pS (t : List Nd) (f : Nat) (l : List Int) (q : Nat) : Int := (l.map fun c => pC t f c.toNat q).sum
theorem pS_nil (t : List Nd) (f q : Nat) : pS t f [] q = 0 := rfl
theorem pS_cons (t : List Nd) (f : Nat) (c : Int) (l : List Int) (q : Nat) : pS t f (c :: l) q = pC t f c.toNat q + pS t f l q := List.sum_cons
theorem pC_succ (t : List Nd) (f a q : Nat) : pC t (f + 1) a q = (if q = a then 1 else 0) + pS t f (t.getD a nd0).c q := rfl
theorem pS_nn (t : List Nd) (f : Nat) (q : Nat) (h : ∀ a, 0 ≤ pC t f a q) : ∀ l, 0 ≤ pS t f l q
  | [] => Int.le_refl _
  | c :: l => by
    rw [pS_cons]
    have := pS_nn t f q h l
    have := h c.toNat
    omega
theorem pC_nn (t : List Nd) (q : Nat) : ∀ f a, 0 ≤ pC t f a q
  | 0, _ => Int.le_refl _
  | f + 1, a => by
    rw [pC_succ]
    have := pS_nn t f q (pC_nn t q f) (t.getD a nd0).c
    split <;> omega
theorem inD_zero (t : List Nd) (q : Nat) : inD t (fun _ => 0) q = 0 := sumR_zero _ _ fun i _ => Int.zero_mul _
theorem inD_congr (t : List Nd) {v w : Nat → Int} (q : Nat) (h : ∀ i, v i = w i) : inD t v q = inD t w q := sumR_congr fun i _ => by
  show v i * _ = w i * _
  rw [h]
theorem inD_one (t : List Nd) {a : Nat} (ha : a < t.length) (q : Nat) : inD t (fun i => if i = a then 1 else 0) q = ((t.getD a nd0).c.count (q : Int) : Int) := by
  unfold inD
  rw [show (fun i => (if i = a then (1 : Int) else 0) * ((t.getD i nd0).c.count (q : Int) : Int)) = fun i => if i = a then ((t.getD i nd0).c.count (q : Int) : Int) else 0 from funext fun i => by
    split <;> simp]
  rw [sumR_one (fun i => ((t.getD i nd0).c.count (q : Int) : Int)) a, if_pos ha]
theorem pS_last (t : List Nd) (f : Nat) (ih : ∀ a, a < t.length → ∀ q, pC t (f + 1) a q = (if q = a then 1 else 0) + inD t (pC t f a) q) (q : Nat) :
    ∀ l : List Int, (∀ c ∈ l, 0 ≤ c ∧ c < (t.length : Int)) → pS t (f + 1) l q = (l.count (q : Int) : Int) + inD t (pS t f l) q
  | [], _ => by rw [pS_nil, inD_congr t q (fun i => pS_nil t f i), inD_zero]; rfl
  | c :: l, h => by
    obtain ⟨h1, h2⟩ := h c (List.mem_cons_self ..)
    rw [pS_cons, pS_last t f ih q l fun c hc => h c (List.mem_cons_of_mem _ hc), ih c.toNat (by omega), inD_congr t q (fun i => pS_cons t f c l i), inD_add, List.count_cons]
    have hb : (if q = c.toNat then (1 : Int) else 0) = (if (c == (q : Int)) = true then 1 else 0) := by
      by_cases e : q = c.toNat
      · rw [if_pos e, if_pos (by rw [beq_iff_eq]; omega)]
      · rw [if_neg e, if_neg (by rw [beq_iff_eq]; omega)]
    have e2 : inD t (fun i => pC t f c.toNat i) q = inD t (pC t f c.toNat) q := rfl
    have e3 : inD t (fun i => pS t f l i) q = inD t (pS t f l) q := rfl
    rw [hb]
    split <;> simp <;> omega
theorem pC_last (t : List Nd) (hk : ∀ x, x < t.length → kdN t x) : ∀ (f a : Nat), a < t.length → ∀ q, pC t (f + 1) a q = (if q = a then 1 else 0) + inD t (pC t f a) q
  | 0, a, ha, q => by
    rw [pC_succ]
    have h1 : inD t (pC t 0 a) q = 0 := inD_zero t q
    have h2 : ∀ l, pS t 0 l q = 0 := fun l => by
      induction l with
      | nil => rfl
      | cons c l ih => rw [pS_cons, ih]; rfl
    rw [h1, h2]
  | f + 1, a, ha, q => by
    have ih := pC_last t hk f
    rw [pC_succ, pS_last t f ih q _ fun c hc => by have := hk a ha c hc; omega]
    rw [inD_congr t q (fun i => pC_succ t f a i), inD_add, inD_one t ha]
theorem pC_one (t : List Nd) (dp : List Int) (ht : 0 < t.length) (hk : ∀ x, x < t.length → kdN t x) (hn : nnL dp) (hp : ∀ x, x < t.length → ∀ c ∈ (t.getD x nd0).c, dp.getD c.toNat 0 = dp.getD x 0 + 1)
    (hu : ∀ q, 0 < q → q < t.length → cK t t.length q = 1) : ∀ (f q : Nat), q < t.length → dp.getD q 0 ≤ (f : Int) → pC t (f + 1) 0 q = 1
  | f, q, hq, hf => by
    have hterm : ∀ i, i < t.length → pC t f 0 i * ((t.getD i nd0).c.count (q : Int) : Int) = 1 * ((t.getD i nd0).c.count (q : Int) : Int) := fun i hi => by
      by_cases hm : (q : Int) ∈ (t.getD i nd0).c
      · have h1 := hp i hi _ hm
        rw [Int.toNat_natCast] at h1
        have h2 := hn i
        obtain ⟨g, rfl⟩ : ∃ g, f = g + 1 := ⟨f - 1, by omega⟩
        rw [pC_one t dp ht hk hn hp hu g i hi (by omega)]
      · rw [List.count_eq_zero.2 hm]
        simp
    rw [pC_last t hk f 0 ht q]
    have hs : inD t (pC t f 0) q = (cK t t.length q : Int) := by
      unfold inD
      rw [sumR_congr hterm, sumR_cK]
    rw [hs]
    by_cases h0 : q = 0
    · subst h0
      have : cK t t.length 0 = 0 := Classical.byContradiction fun h => by
        obtain ⟨x, h1, h2⟩ := cK_ex t 0 t.length (by omega)
        have := hk x h1 _ h2
        omega
      rw [this]
      rfl
    · rw [if_neg h0, hu q (by omega) hq]
      rfl
termination_by f => f
end Go.Proofs.YtphaholcndhonaaDoor.Tr
namespace Go.Proofs.YtphaholcndhonaaDoor.Tr
open Go Go.RowKit Go.Proofs.YtphaholcndhonaaDoor.Ab
set_option linter.unusedSimpArgs false
set_option linter.unusedVariables false

theorem inL_lfok (t : List Nd) (rec : Nat → List Int → IR) (at_ : Nat) (n : Nd) (h0 : n.c.length = 0) : ∀ (r i : Nat) (sn : List Int) (out : Prs) (d : Int), (inL t rec at_ n r i sn out d).1.2.2 = true
  | 0, i, sn, out, d => rfl
  | r + 1, i, sn, out, d => by
    unfold inL
    rw [if_pos h0]
    exact inL_lfok t rec at_ n h0 r (i + 1) sn _ d
theorem pS_split (t : List Nd) (f : Nat) (l : List Int) {i : Nat} (h : i < l.length) (q : Nat) : pS t f (l.drop i) q = pC t f (l.getD i 0).toNat q + pS t f (l.drop (i + 1)) q := by
  rw [List.drop_eq_getElem_cons h, pS_cons, List.getD_eq_getElem?_getD, List.getElem?_eq_getElem h]
  rfl
theorem inL_on (t : List Nd) (rec : Nat → List Int → IR) (f at_ : Nat) (n : Nd) (w : Int) (hc : n.c.length = n.k.length + 1) (hk : ∀ c ∈ n.c, (at_ : Int) < c ∧ c < (t.length : Int)) (hlen : ∀ a sn, (rec a sn).2.length = sn.length)
    (hrec : ∀ c ∈ n.c, ∀ sn, sn.length = t.length → (∀ q, q < t.length → sn.getD q 0 + pC t f c.toNat q ≤ 1) → (rec c.toNat sn).1.2.2 = true ∧ (∀ q, q < t.length → (rec c.toNat sn).2.getD q 0 = sn.getD q 0 + pC t f c.toNat q) ∧ (rec c.toNat sn).1.2.1 = w) :
    ∀ (r i : Nat) (sn : List Int) (out : Prs) (d : Int), r + i = n.k.length + 1 → sn.length = t.length → (∀ q, q < t.length → sn.getD q 0 + pS t f (n.c.drop i) q ≤ 1) → (0 < i → d = w) →
      (inL t rec at_ n r i sn out d).1.2.2 = true ∧ (∀ q, q < t.length → (inL t rec at_ n r i sn out d).2.getD q 0 = sn.getD q 0 + pS t f (n.c.drop i) q) ∧ (inL t rec at_ n r i sn out d).1.2.1 = w + 1
  | 0, i, sn, out, d, hr, hs, hu, hd => by
    refine ⟨rfl, fun q _ => ?_, ?_⟩
    · rw [List.drop_eq_nil_of_le (by omega), pS_nil]; exact (Int.add_zero _).symm
    · rw [← hd (by omega)]; rfl
  | r + 1, i, sn, out, d, hr, hs, hu, hd => by
    have hil : i < n.c.length := by omega
    obtain ⟨g1, g2⟩ := hk _ (getD_mem hil)
    have hsp := pS_split t f n.c hil
    obtain ⟨b1, b2, b3⟩ := hrec _ (getD_mem hil) sn hs (fun q hq => by
      have := hu q hq
      rw [hsp] at this
      have := pS_nn t f q (pC_nn t q f) (n.c.drop (i + 1))
      omega)
    have hl0 := hlen (n.c.getD i 0).toNat sn
    unfold inL
    rw [if_neg (by omega), if_neg (by omega)]
    generalize rec (n.c.getD i 0).toNat sn = x at *
    rw [if_neg (by rw [b1, b3]; rintro (h | ⟨h1, h2⟩); · cases h
                   · exact h2 (hd h1).symm)]
    obtain ⟨c1, c2, c3⟩ := inL_on t rec f at_ n w hc hk hlen hrec r (i + 1) x.2 (out ++ x.1.1 ++ prI n i) x.1.2.1 (by omega) (hl0.trans hs) (fun q hq => by
      have := hu q hq
      rw [hsp] at this
      rw [b2 q hq]
      omega) (fun _ => b3)
    refine ⟨c1, fun q hq => ?_, c3⟩
    rw [c2 q hq, b2 q hq, hsp]
    omega
theorem inF_on (t : List Nd) (dp : List Int) (v : Int) (hg : ∀ x, x < t.length → gdN t x) (hp : ∀ x, x < t.length → ∀ c ∈ (t.getD x nd0).c, dp.getD c.toNat 0 = dp.getD x 0 + 1)
    (hv : ∀ x, x < t.length → (t.getD x nd0).c.length = 0 → dp.getD x 0 = v) :
    ∀ (f a : Nat) (sn : List Int), a < t.length → t.length ≤ f + a → sn.length = t.length → (∀ q, q < t.length → sn.getD q 0 + pC t f a q ≤ 1) →
      (inF t f a sn).1.2.2 = true ∧ (∀ q, q < t.length → (inF t f a sn).2.getD q 0 = sn.getD q 0 + pC t f a q) ∧ (inF t f a sn).1.2.1 = v - dp.getD a 0 + 1
  | 0, a, sn, ha, hf, hs, hu => absurd hf (by omega)
  | f + 1, a, sn, ha, hf, hs, hu => by
    obtain ⟨hb, hk⟩ := hg a ha
    obtain ⟨e1, e2, e3, e4⟩ := not_bad hb
    have hset : ∀ q, (sn.set a (sn.getD a 0 + 1)).getD q 0 = if q = a then sn.getD q 0 + 1 else sn.getD q 0 := fun q => by
      rw [getD_set]
      by_cases e : q = a
      · subst e; rw [if_pos ⟨rfl, by omega⟩, if_pos rfl]
      · rw [if_neg (fun h => e h.1.symm), if_neg e]
    have hua := hu a ha
    rw [pC_succ, if_pos rfl] at hua
    have hn0 := pS_nn t f a (pC_nn t a f) (t.getD a nd0).c
    unfold inF
    rw [if_neg (by rw [hset, if_pos rfl]; rintro (h | h); · exact hb h
                   · omega)]
    by_cases h0 : (t.getD a nd0).c.length = 0
    · obtain ⟨k1, k2⟩ := inL_leaf t (inF t f) a (t.getD a nd0) h0 ((t.getD a nd0).k.length + 1) 0 (sn.set a (sn.getD a 0 + 1)) [] 0
      refine ⟨inL_lfok t _ a _ h0 _ _ _ _ _, fun q hq => ?_, ?_⟩
      · rw [k2, hset, pC_succ, List.eq_nil_of_length_eq_zero h0, pS_nil]
        split <;> omega
      · rw [k1, hv a ha h0]; omega
    · have hc : (t.getD a nd0).c.length = (t.getD a nd0).k.length + 1 := by
        rcases e4 with e4 | e4
        · rw [e4] at h0; exact absurd rfl h0
        · exact e4
      obtain ⟨c1, c2, c3⟩ := inL_on t (inF t f) f a (t.getD a nd0) (v - (dp.getD a 0 + 1) + 1) hc hk (inF_len t f) (fun c hc sn' hs' hu' => by
        have hkc := hk c hc
        have h := inF_on t dp v hg hp hv f c.toNat sn' (by omega) (by omega) hs' hu'
        rw [hp a ha c hc] at h
        exact h) ((t.getD a nd0).k.length + 1) 0 (sn.set a (sn.getD a 0 + 1)) [] 0 rfl (by rw [List.length_set]; exact hs) (fun q hq => by
        have := hu q hq
        rw [pC_succ] at this
        rw [hset, List.drop_zero]
        split <;> rename_i hqa
        · rw [if_pos hqa] at this; omega
        · rw [if_neg hqa] at this; omega) (fun h => absurd h (Nat.lt_irrefl _))
      refine ⟨c1, fun q hq => ?_, by rw [c3]; omega⟩
      rw [c2 q hq, hset, List.drop_zero, pC_succ]
      split <;> omega
theorem sh_left (t : List Nd) (ht : 0 < t.length) {dp : List Int} (h1 : stA t t.length 0 (zI t.length) = some dp) (h2 : ordA t dp t.length 0 (-1) = true) :
    (inF t t.length 0 (zI t.length)).1.2.2 = true ∧ ∀ q, q < t.length → (inF t t.length 0 (zI t.length)).2.getD q 0 = 1 := by
  have hz : nnL (zI t.length) := fun q => by rw [zI_get]; exact Int.le_refl _
  obtain ⟨hn, hp⟩ := stA_pm t t.length 0 (zI t.length) dp (Nat.zero_add _) List.length_replicate hz (fun x hx => absurd hx (Nat.not_lt_zero _)) h1
  obtain ⟨m, hu, hg⟩ := stA_inv t t.length 0 (zI t.length) dp (Nat.zero_add _) ⟨List.length_replicate, fun q hq => by
    rw [zI_get]
    have : cK t 0 q = 0 := rfl
    rw [this]
    simp⟩ (fun q _ => Nat.zero_le _) h1
  obtain ⟨v, _, ho⟩ := ordA_inv t dp hn t.length 0 (-1) h2
  have hg' : ∀ x, x < t.length → gdN t x := fun x hx => hg x (Nat.zero_le _) hx
  have hpos : ∀ q, 0 < q → q < t.length → 0 < cK t t.length q := fun q h0 hq => by
    have a1 := (ho q (Nat.zero_le _) (by omega)).1 h0
    have a2 := hn q
    have a3 := (m.2 q hq).2.1 (by omega)
    simpa using a3
  have hle : ∀ b q, q < b → q < t.length → dp.getD q 0 ≤ (q : Int) := fun b => by
    induction b with
    | zero => exact fun q h => absurd h (Nat.not_lt_zero _)
    | succ b ih =>
      intro q _ hq
      by_cases h0 : 0 < dp.getD q 0
      · have a3 := (m.2 q hq).2.1 h0
        obtain ⟨x, hx, hm⟩ := cK_ex t q t.length (by simpa using a3)
        have a4 := (hg' x hx).2 _ hm
        have a5 := hp x hx _ hm
        rw [Int.toNat_natCast] at a5
        have := ih x (by omega) hx
        omega
      · omega
  obtain ⟨f, hf⟩ : ∃ f, t.length = f + 1 := ⟨t.length - 1, by omega⟩
  have hone : ∀ q, q < t.length → pC t t.length 0 q = 1 := fun q hq => by
    have := hle (q + 1) q (by omega) hq
    rw [show pC t t.length 0 q = pC t (f + 1) 0 q by rw [hf]]
    exact pC_one t dp ht (fun x hx => (hg' x hx).2) hn hp (fun q h0 hq => by
      have := hpos q h0 hq
      have := hu q hq
      omega) f q hq (by omega)
  obtain ⟨c1, c2, _⟩ := inF_on t dp v hg' hp (fun x hx h0 => (ho x (Nat.zero_le _) (by omega)).2 h0) t.length 0 (zI t.length) ht (Nat.le_refl _) List.length_replicate (fun q hq => by
    rw [zI_get, hone q hq]; decide)
  exact ⟨c1, fun q hq => by rw [c2 q hq, zI_get, hone q hq]; rfl⟩
theorem chk_law (t : List Nd) : chkF t = (prsF t).2 := chk_prs t fun h0 _ => ⟨fun ⟨_, h1, h2⟩ => sh_left t h0 h1 h2, fun ⟨h1, h2⟩ => sh_right t h0 h1 h2⟩
end Go.Proofs.YtphaholcndhonaaDoor.Tr
