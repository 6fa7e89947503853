/- Reading of expressions: what both parsers do. No condition. -/
import Derived.Test.YtcdifgacoleckaaDoorTSx
import Derived.Test.YtcdifgacoleckaaDoorTXsD
namespace Go.Proofs.YtcdifgacoleckaaDoor
open Go Go.RowKit Go.Proofs.YtcdifgacoleckaaDoor.Ab

theorem tok_eq {a b : Tok} : a = b ↔ a.k = b.k ∧ a.t = b.t ∧ a.i = b.i ∧ a.b = b.b := by
  obtain ⟨k, t, i, x⟩ := a
  obtain ⟨k', t', i', x'⟩ := b
  simp
instance : DecidableEq Tok := fun _ _ => decidable_of_iff' _ tok_eq
/-- a place in the tokens, and what is wrong there -/
structure Spot where
  p : Nat
  e : Int
def tok0 : Tok := ⟨0, [], 0, 0⟩
def seesF (l : List Tok) (s : Spot) (t : Tok) : Bool := decide (s.e = 0 ∧ s.p < l.length ∧ l.getD s.p tok0 = t)
def badF (l : List Tok) (s : Spot) : Spot := if s.e = 0 then ⟨s.p, if l.length ≤ s.p then 4 else 3⟩ else s
def pastF (l : List Tok) : Spot → List Tok → Spot
  | s, [] => s
  | s, t :: r => if seesF l s t = true then pastF l ⟨s.p + 1, s.e⟩ r else badF l s
def kindF (l : List Tok) (s : Spot) : Int := if s.e ≠ 0 ∨ l.length ≤ s.p ∨ tkF (l.getD s.p tok0) ≠ 0 then 0 else (l.getD s.p tok0).k
/-- the operations of a level -/
def opsF (lv : Nat) : List Int := match lv with
  | 0 => [16]
  | 1 => [15]
  | 3 => [9, 10, 11, 12, 13, 14]
  | 4 => [19]
  | 5 => [5, 6]
  | 6 => [7, 8]
  | _ => []
def opAtF (l : List Tok) (s : Spot) (lv : Nat) : Int := ((opsF lv).find? fun op => seesF l s (mkS op)).getD 0
def tokN : Tok := wdT [78, 79, 84]
def tokM : Tok := sgT [45]
def tokIs : Tok := wdT [73, 83]
def tokNl : Tok := wdT [78, 85, 76, 76]
def tokT : Tok := wdT [84, 82, 85, 69]
def tokF : Tok := wdT [70, 65, 76, 83, 69]
def tokL : Tok := sgT [40]
def tokR : Tok := sgT [41]
def tokC : Tok := sgT [44]
def tokLn : Tok := wdT [76, 69, 78, 71, 84, 72]
def tokCo : Tok := wdT [67, 79, 65, 76, 69, 83, 67, 69]
def litE (v : Val) : Ex := .mk 1 v [] []
/-- operations of one level, from the left -/
def lpF (l : List Tok) (nx : Spot → Ex × Spot) (lv : Nat) : Nat → Ex → Spot → Ex × Spot
  | 0, e, t => (e, t)
  | n + 1, e, t =>
    if t.e ≠ 0 then (e, t) else
    if opAtF l t lv = 0 then (e, t) else
    if lv = 3 then (.mk (opAtF l t lv) val0 [] [e, (nx ⟨t.p + 1, t.e⟩).1], (nx ⟨t.p + 1, t.e⟩).2)
    else lpF l nx lv n (.mk (opAtF l t lv) val0 [] [e, (nx ⟨t.p + 1, t.e⟩).1]) (nx ⟨t.p + 1, t.e⟩).2
def groundF (l : List Tok) (c0 : Spot → Ex × Spot) (s : Spot) : Ex × Spot :=
  if seesF l s tokNl = true then (litE val0, ⟨s.p + 1, s.e⟩) else
  if seesF l s tokT = true then (litE ⟨1, 1, 0, []⟩, ⟨s.p + 1, s.e⟩) else
  if seesF l s tokF = true then (litE ⟨1, 0, 0, []⟩, ⟨s.p + 1, s.e⟩) else
  if seesF l s tokL = true then ((c0 (pastF l s [tokL])).1, pastF l (c0 (pastF l s [tokL])).2 [tokR]) else
  if seesF l s tokLn = true then (.mk 18 val0 [] [(c0 (pastF l s [tokLn, tokL])).1], pastF l (c0 (pastF l s [tokLn, tokL])).2 [tokR]) else
  if seesF l s tokCo = true then
    (.mk 20 val0 [] [(c0 (pastF l s [tokCo, tokL])).1, (c0 (pastF l (c0 (pastF l s [tokCo, tokL])).2 [tokC])).1], pastF l (c0 (pastF l (c0 (pastF l s [tokCo, tokL])).2 [tokC])).2 [tokR]) else
  if kindF l s = 1 then (.mk 2 val0 (l.getD s.p tok0).t [], ⟨s.p + 1, s.e⟩) else
  if kindF l s = 3 then (litE ⟨2, (l.getD s.p tok0).i, 0, []⟩, ⟨s.p + 1, s.e⟩) else
  if kindF l s = 5 then (litE ⟨3, 0, (l.getD s.p tok0).b, []⟩, ⟨s.p + 1, s.e⟩) else
  if kindF l s = 4 then (litE ⟨4, 0, 0, (l.getD s.p tok0).t⟩, ⟨s.p + 1, s.e⟩) else (ex0, badF l s)
def climbF (l : List Tok) : Nat → Nat → Spot → Ex × Spot
  | 0, _, s => (ex0, s)
  | n + 1, lv, s =>
    if lv = 2 then
      if seesF l s tokN = true then (.mk 4 val0 [] [(climbF l n 2 (pastF l s [tokN])).1], (climbF l n 2 (pastF l s [tokN])).2) else climbF l n 3 s
    else if lv = 7 then
      if seesF l s tokM = true then (.mk 3 val0 [] [(climbF l n 7 (pastF l s [tokM])).1], (climbF l n 7 (pastF l s [tokM])).2) else groundF l (climbF l n 0) s
    else if lv = 3 ∧ seesF l (climbF l n (lv + 1) s).2 tokIs = true then (.mk 17 val0 [] [(climbF l n (lv + 1) s).1], pastF l (climbF l n (lv + 1) s).2 [tokIs, tokNl])
    else lpF l (climbF l n (lv + 1)) lv (l.length + 1) (climbF l n (lv + 1) s).1 (climbF l n (lv + 1) s).2

theorem sees_iff {l : List Tok} {s : Spot} {t : Tok} : seesF l s t = true ↔ s.e = 0 ∧ s.p < l.length ∧ l.getD s.p tok0 = t := by
  unfold seesF
  exact decide_eq_true_iff
theorem sees_bad {l : List Tok} {s : Spot} {t : Tok} (h : s.e ≠ 0) : seesF l s t = false := by
  cases hs : seesF l s t with
  | false => rfl
  | true => exact absurd (sees_iff.1 hs).1 h
theorem past_bad {l : List Tok} {s : Spot} {ts : List Tok} (h : s.e ≠ 0) : pastF l s ts = s := by
  cases ts with
  | nil => rfl
  | cons t r =>
    unfold pastF
    rw [if_neg (by rw [sees_bad h]; exact Bool.noConfusion)]
    unfold badF
    rw [if_neg h]
theorem opAt_bad {l : List Tok} {s : Spot} {lv : Nat} (h : s.e ≠ 0) : opAtF l s lv = 0 := by
  unfold opAtF
  have : (opsF lv).find? (fun op => seesF l s (mkS op)) = none := by
    rw [List.find?_eq_none]
    intro x _
    rw [sees_bad h]
    exact Bool.noConfusion
  rw [this]
  rfl
theorem kind_bad {l : List Tok} {s : Spot} (h : s.e ≠ 0) : kindF l s = 0 := by
  unfold kindF
  rw [if_pos (.inl h)]
theorem lp_bad {l : List Tok} {nx : Spot → Ex × Spot} {lv n : Nat} {e : Ex} {t : Spot} (h : t.e ≠ 0) : lpF l nx lv n e t = (e, t) := by
  cases n with
  | zero => rfl
  | succ n =>
    unfold lpF
    rw [if_pos h]
theorem ground_bad {l : List Tok} {c0 : Spot → Ex × Spot} {s : Spot} (h : s.e ≠ 0) : groundF l c0 s = (ex0, s) := by
  unfold groundF
  simp only [sees_bad h, kind_bad h]
  unfold badF
  rw [if_neg h]
  simp
end Go.Proofs.YtcdifgacoleckaaDoor
namespace Go.Proofs.YtcdifgacoleckaaDoor
open Go Go.RowKit Go.Proofs.YtcdifgacoleckaaDoor.Ab

theorem climb_bad {l : List Tok} {s : Spot} (h : s.e ≠ 0) : ∀ (n lv : Nat), climbF l n lv s = (ex0, s)
  | 0, _ => rfl
  | n + 1, lv => by
    rw [climbF]
    simp only [sees_bad h, climb_bad h n, ground_bad h, lp_bad h]
    simp
def Fwd (l : List Tok) (f : Spot → Ex × Spot) : Prop := ∀ s, s.p ≤ (f s).2.p ∧ (s.p ≤ l.length → (f s).2.p ≤ l.length)
theorem bad_p (l : List Tok) (s : Spot) : (badF l s).p = s.p := by
  unfold badF
  split <;> rfl
theorem past_fwd (l : List Tok) : ∀ (ts : List Tok) (s : Spot), s.p ≤ (pastF l s ts).p ∧ (s.p ≤ l.length → (pastF l s ts).p ≤ l.length)
  | [], s => ⟨Nat.le_refl _, id⟩
  | t :: r, s => by
    unfold pastF
    split
    · rename_i h
      have h1 := (sees_iff.1 h).2.1
      have ih := past_fwd l r ⟨s.p + 1, s.e⟩
      exact ⟨Nat.le_trans (Nat.le_succ _) ih.1, fun _ => ih.2 h1⟩
    · rw [bad_p]
      exact ⟨Nat.le_refl _, id⟩
theorem opAt_lt {l : List Tok} {s : Spot} {lv : Nat} (h : opAtF l s lv ≠ 0) : s.e = 0 ∧ s.p < l.length := by
  unfold opAtF at h
  cases hf : (opsF lv).find? fun op => seesF l s (mkS op) with
  | none => rw [hf] at h; exact absurd rfl h
  | some o =>
    have := List.find?_some hf
    have := sees_iff.1 this
    exact ⟨this.1, this.2.1⟩
theorem lp_fwd {l : List Tok} {nx : Spot → Ex × Spot} (hn : Fwd l nx) {lv : Nat} : ∀ (n : Nat) (e : Ex) (t : Spot), t.p ≤ (lpF l nx lv n e t).2.p ∧ (t.p ≤ l.length → (lpF l nx lv n e t).2.p ≤ l.length)
  | 0, e, t => ⟨Nat.le_refl _, id⟩
  | n + 1, e, t => by
    unfold lpF
    split
    · exact ⟨Nat.le_refl _, id⟩
    · split
      · exact ⟨Nat.le_refl _, id⟩
      · rename_i h0
        have h1 := (opAt_lt h0).2
        have h2 := hn ⟨t.p + 1, t.e⟩
        have h3 : t.p + 1 ≤ (nx ⟨t.p + 1, t.e⟩).2.p := h2.1
        have h4 := h2.2 h1
        split
        · exact ⟨Nat.le_trans (Nat.le_succ _) h3, fun _ => h4⟩
        · have ih := lp_fwd (lv := lv) hn n (.mk (opAtF l t lv) val0 [] [e, (nx ⟨t.p + 1, t.e⟩).1]) (nx ⟨t.p + 1, t.e⟩).2
          exact ⟨Nat.le_trans (Nat.le_trans (Nat.le_succ _) h3) ih.1, fun _ => ih.2 h4⟩
theorem kind_lt {l : List Tok} {s : Spot} (h : kindF l s ≠ 0) : s.e = 0 ∧ s.p < l.length ∧ tkF (l.getD s.p tok0) = 0 ∧ kindF l s = (l.getD s.p tok0).k := by
  unfold kindF at h ⊢
  split at h
  · exact absurd rfl h
  · rename_i h0
    rw [if_neg h0]
    refine ⟨Classical.byContradiction fun e => h0 (.inl e), Nat.lt_of_not_le fun e => h0 (.inr (.inl e)), Classical.byContradiction fun e => h0 (.inr (.inr e)), rfl⟩
theorem fwd_one {l : List Tok} {s : Spot} {t : Tok} (h : seesF l s t = true) : s.p ≤ s.p + 1 ∧ (s.p ≤ l.length → s.p + 1 ≤ l.length) := ⟨Nat.le_succ _, fun _ => (sees_iff.1 h).2.1⟩
theorem Fwd.past {l : List Tok} {c0 : Spot → Ex × Spot} (hc : Fwd l c0) (s : Spot) (ts : List Tok) : s.p ≤ (c0 (pastF l s ts)).2.p ∧ (s.p ≤ l.length → (c0 (pastF l s ts)).2.p ≤ l.length) :=
  ⟨Nat.le_trans (past_fwd l ts s).1 (hc _).1, fun h => (hc _).2 ((past_fwd l ts s).2 h)⟩
theorem fwd_trans {l : List Tok} {s t u : Spot} (h : s.p ≤ t.p ∧ (s.p ≤ l.length → t.p ≤ l.length)) (k : t.p ≤ u.p ∧ (t.p ≤ l.length → u.p ≤ l.length)) : s.p ≤ u.p ∧ (s.p ≤ l.length → u.p ≤ l.length) :=
  ⟨Nat.le_trans h.1 k.1, fun q => k.2 (h.2 q)⟩
theorem ground_fwd {l : List Tok} {c0 : Spot → Ex × Spot} (hc : Fwd l c0) : Fwd l (groundF l c0) := by
  intro s
  unfold groundF
  split
  · rename_i h; exact fwd_one h
  split
  · rename_i h; exact fwd_one h
  split
  · rename_i h; exact fwd_one h
  split
  · exact fwd_trans (hc.past s _) (past_fwd l _ _)
  split
  · exact fwd_trans (hc.past s _) (past_fwd l _ _)
  split
  · exact fwd_trans (fwd_trans (hc.past s _) (hc.past _ _)) (past_fwd l _ _)
  have k : ∀ {q : Int}, kindF l s = q → q ≠ 0 → s.p ≤ s.p + 1 ∧ (s.p ≤ l.length → s.p + 1 ≤ l.length) := fun h hq => ⟨Nat.le_succ _, fun _ => (kind_lt (by rw [h]; exact hq)).2.1⟩
  split
  · rename_i h; exact k h (by decide)
  split
  · rename_i h; exact k h (by decide)
  split
  · rename_i h; exact k h (by decide)
  split
  · rename_i h; exact k h (by decide)
  rw [bad_p]
  exact ⟨Nat.le_refl _, id⟩
theorem climb_fwd (l : List Tok) : ∀ (n lv : Nat), Fwd l (climbF l n lv)
  | 0, _ => fun s => ⟨Nat.le_refl _, id⟩
  | n + 1, lv => by
    intro s
    rw [climbF]
    split
    · split
      · exact (climb_fwd l n 2).past s _
      · exact climb_fwd l n 3 s
    · split
      · split
        · exact (climb_fwd l n 7).past s _
        · exact ground_fwd (climb_fwd l n 0) s
      · split
        · exact fwd_trans (climb_fwd l n (lv + 1) s) (past_fwd l _ _)
        · exact fwd_trans (climb_fwd l n (lv + 1) s) (lp_fwd (climb_fwd l n (lv + 1)) _ _ _)
end Go.Proofs.YtcdifgacoleckaaDoor
namespace Go.Proofs.YtcdifgacoleckaaDoor
open Go Go.RowKit Go.Proofs.YtcdifgacoleckaaDoor.Ab
set_option linter.unusedSimpArgs false
set_option linter.unusedVariables false

def eSp (l : List Tok) (s : Spot) : List E := [eTks l, eI (s.p : Int), eI s.e]
set_option maxRecDepth 10000 in
set_option maxHeartbeats 2000000 in
theorem bad_fn (l : List Tok) (s : Spot) : FnD Tryd.prog 31 [.agg (.es (eSp l s))] (.agg (.es (eSp l (badF l s)))) := by
  refine fn_intro (T := tab) tOk Tryd.func31 rfl (by kernel_rfl) (by simp [Tryd.ntmps31]) ?_
  intro X hX
  have hnt : X.nt = 15 := hX
  clear hX
  have lw : (l.map eTok).length = l.length := List.length_map ..
  repeat' first | refine zzs ?_ | refine zzr hnt rfl ?_ ?_ | refine zzd hnt rfl ?_ ?_ | refine zzb ?_ | refine zzk ?_
  · exact zzt
  · exact zzt
  repeat' first | refine zzs ?_ | refine zzb ?_ | refine zzk ?_
  refine tr_cond rfl (fun hc => ?_) (fun hc => ?_)
  · have hc : s.e = 0 := of_decide_eq_true hc
    repeat' first | refine zzs ?_ | refine zzr hnt rfl ?_ ?_ | refine zzd hnt rfl ?_ ?_ | refine zzb ?_ | refine zzk ?_
    · exact zzt
    · exact zzt
    repeat' first | refine zzs ?_ | refine zzb ?_ | refine zzk ?_
    refine tr_cond rfl (fun hc => ?_) (fun hc => ?_)
    · have hb : badF l s = ⟨s.p, 4⟩ := by
        have hc := of_decide_eq_true hc
        have hc : ((l.map eTok).length : Int) ≤ (s.p : Int) := hc
        unfold badF
        rw [if_pos ‹s.e = 0›, if_pos (by omega)]
      rw [hb]
      repeat' first | refine zzs ?_ | refine zzr hnt rfl ?_ ?_ | refine zzd hnt rfl ?_ ?_ | refine zzb ?_ | refine zzk ?_
      · exact zzt
      · exact zzt
      exact tr_ret ⟨.inr rfl, _, _, rfl, zzp, rfl⟩
    have hb : badF l s = ⟨s.p, 3⟩ := by
      have hc := of_decide_eq_false hc
      have hc : ¬ ((l.map eTok).length : Int) ≤ (s.p : Int) := hc
      unfold badF
      rw [if_pos ‹s.e = 0›, if_neg (by omega)]
    rw [hb]
    repeat' first | refine zzs ?_ | refine zzr hnt rfl ?_ ?_ | refine zzd hnt rfl ?_ ?_ | refine zzb ?_ | refine zzk ?_
    · exact zzt
    exact tr_ret ⟨.inr rfl, _, _, rfl, zzp, rfl⟩
  have hb : badF l s = s := by
    have hc : ¬ s.e = 0 := of_decide_eq_false hc
    unfold badF
    rw [if_neg hc]
  rw [hb]
  repeat' first | refine zzs ?_ | refine zzr hnt rfl ?_ ?_ | refine zzd hnt rfl ?_ ?_ | refine zzb ?_ | refine zzk ?_
  · exact zzt
  exact tr_ret ⟨.inr rfl, _, _, rfl, zzp, rfl⟩
theorem eqTk (v w : Tok) : (eqD tab 9 60 (.agg (.es (eTok v))) (.agg (.es (eTok w)))).2 = decide (v = w) := by
  show (v.k == w.k && (strEq (strB v.t) (strB w.t) && (v.i == w.i && (((v.b.toNat : Int) == (w.b.toNat : Int)) && true)))) = _
  rw [strEq_B, Bool.eq_iff_iff]
  obtain ⟨a, b, c, d⟩ := v
  obtain ⟨a', b', c', d'⟩ := w
  simp
  intro _ _ _
  constructor
  · intro h; exact BitVec.eq_of_toNat_eq (by omega)
  · intro h; rw [h]
theorem tksGet (l : List Tok) {i : Nat} (h : i < l.length) : (l.map eTok).getD i [] = eTok (l.getD i tok0) := by
  rw [List.getD_eq_getElem?_getD, List.getElem?_map, List.getElem?_eq_getElem h, List.getD_eq_getElem?_getD, List.getElem?_eq_getElem h]
  rfl
theorem spGet (l : List Tok) (s : Spot) (h : s.p < l.length) : ((eSp l s).getD (0 + 0) E.dflt).xs.getD ((eSp l s).getD (0 + 1) E.dflt).int.toNat [] = eTok (l.getD s.p tok0) := tksGet l h
set_option maxRecDepth 10000 in
set_option maxHeartbeats 2000000 in
theorem sees_fn (l : List Tok) (s : Spot) (x : Byt) (t : Tok) (r : List Tok) (hx : Tks x (t :: r)) : FnG Tryd.prog 17 ([(1, spE)]) [.agg (.es (eSp l s)), .one (.e (eT x))] (.v (.bool (seesF l s t))) := by
  refine fn_introG (T := tab) tOk Tryd.func17 rfl (by kernel_rfl) (by simp [Tryd.ntmps17]) ?_
  intro X hX
  have hnt : X.nt = 27 := hX
  clear hX
  unfold Tks at hx
  have h0 : ((eSp l s).getD (0 + 2) E.dflt).int = s.e := rfl
  have h1 : ((eSp l s).getD (0 + 0) E.dflt).xs.length = l.length := List.length_map ..
  have h2 : ((eSp l s).getD (0 + 1) E.dflt).int = (s.p : Int) := rfl
  repeat' first | refine zzs ?_ | refine zzr hnt rfl ?_ ?_ | refine zzd hnt rfl ?_ ?_ | refine zzb ?_ | refine zzk ?_
  · exact zzt
  · exact zzt
  repeat' first | refine zzs ?_ | refine zzb ?_ | refine zzk ?_
  refine tr_cond rfl (fun hc => ?_) (fun hc => ?_)
  · simp only [zz1, zz2, zz3, zz4, zz5, zz6, zz7, zz8] at hc
    (try simp only [h0, h1, h2] at hc)
    (try simp only [zz1, zz2, zz3, zz4, zz5, zz6, zz7, zz8] at hc)
    have hs : seesF l s t = false := by
      cases h : seesF l s t with
      | false => rfl
      | true =>
        have h := sees_iff.1 h
        omega
    rw [hs]
    repeat' first | refine zzs ?_ | refine zzr hnt rfl ?_ ?_ | refine zzd hnt rfl ?_ ?_ | refine zzb ?_ | refine zzk ?_
    · exact zzt
    exact tr_ret ⟨.inr rfl, _, _, rfl, zzp, rfl⟩
  simp only [zz1, zz2, zz3, zz4, zz5, zz6, zz7, zz8] at hc
  (try simp only [h0, h1, h2] at hc)
  (try simp only [zz1, zz2, zz3, zz4, zz5, zz6, zz7, zz8] at hc)
  have hlt : s.p < l.length := by omega
  have hn : (0 : Int) < ((List.map eTok (t :: r)).length : Int) := by simp
  have hn2 : (0 : Nat) < (List.map eTok (t :: r)).length := by simp
  repeat' first | refine zzs ?_ | refine zzb ?_ | refine zzk ?_
  refine tr_draw (T := tab) tOk hnt mixedR (lexD (T := tab) rfl ?_ (callVD rfl rfl rfl rfl rfl rfl rfl rfl rfl (hx) (lexD (T := tab) rfl ?_ (.nil _)))) (by first | decide +kernel | kernel_rfl) ?_
  · rw [spGet l s hlt]
    exact zza
  · rw [spGet l s hlt]
    exact zza
  rw [spGet l s hlt]
  have hs : seesF l s t = decide (l.getD s.p tok0 = t) := by
    unfold seesF
    rw [decide_eq_decide]
    exact ⟨fun h => h.2.2, fun h => ⟨hc.1, hlt, h⟩⟩
  rw [hs, ← eqTk]
  exact tr_ret ⟨.inr rfl, _, _, rfl, zzp, rfl⟩
theorem spInc (l : List Tok) (e : Int) {p : Nat} (h : p < 9223372036854775807) : [eTks l, E.v (.int .i64 (IntKind.i64.wrap (((p : Nat) : Int) + 1))), eI e] = eSp l ⟨p + 1, e⟩ := by
  rw [wrap64_id (by omega) (by omega)]
  rfl
theorem past_cons {l : List Tok} {s : Spot} {t : Tok} {r : List Tok} : pastF l s (t :: r) = if seesF l s t = true then pastF l ⟨s.p + 1, s.e⟩ r else badF l s := by rw [pastF]
set_option maxRecDepth 10000 in
set_option maxHeartbeats 2000000 in
theorem past_fn (l : List Tok) (hm : l.length ≤ maxLen) (s0 : Spot) (x : Byt) (ws : List Byt) (hF : Fld x ws) (hx : ∀ w ∈ ws, Tks w [wtk w]) (hw1 : ws.length ≤ 1000) : FnG Tryd.prog 18 ([(1, spE)]) [.agg (.es (eSp l s0)), .one (.e (eT x))] (.agg (.es (eSp l (pastF l s0 (ws.map wtk))))) := by
  refine fn_introG (T := tab) tOk Tryd.func18 rfl (by kernel_rfl) (by simp [Tryd.ntmps18]) ?_
  intro X hX
  have hnt : X.nt = 26 := hX
  clear hX
  have lw : (ws.map fun t => [eT t]).length = ws.length := List.length_map ..
  have hm' : l.length ≤ 9223372036854775807 := Nat.le_trans hm (by decide)
  unfold Fld at hF
  repeat' first | refine zzs ?_ | refine zzr hnt rfl ?_ ?_ | refine zzd hnt rfl ?_ ?_ | refine zzb ?_ | refine zzk ?_
  · exact zzt
  repeat' first | refine zzs ?_ | refine zzb ?_ | refine zzk ?_
  refine tr_region (zzx hnt rfl ?_ (callV rfl rfl rfl rfl rfl rfl rfl hnt rfl (hF) (zzx hnt rfl ?_ (Lex.nil _)))) ?_
  · exact zza
  · exact zza
  repeat' first | refine zzs ?_ | refine zzb ?_ | refine zzk ?_
  refine tr_loop (σ := Nat) (fun i => St.of [(2, .one (.ptr 2 0 0)), (4, .one (.ptr 4 0 0)), (8, .one (.e (.sl (ws.map fun t => [eT t])))), (9, .one (.e (eI ((ws.map fun t => [eT t]).length : Int)))), (10, .one (.e (eI (i : Int)))), ((1000000 + 1), .one (.eptr spE))] [(2, ⟨0, .box (.es (eSp l ⟨s0.p + i, s0.e⟩)), 0⟩), (4, ⟨0, .box (.ds [.nil, .e (eI 0), .e (eI 0)]), 0⟩)]) (fun i => i ≤ ws.length ∧ pastF l ⟨s0.p + i, s0.e⟩ ((ws.drop i).map wtk) = pastF l s0 (ws.map wtk)) (fun i => ws.length - i) (0) (le_of (ad := []) ⟨zzl, zzl, zzl, zzl, zzl, zzl, trivial⟩ (memOk_box rfl rfl rfl (memOk_box rfl rfl ⟨trivial, rfl, rfl, trivial⟩ trivial))) ⟨Nat.zero_le _, rfl⟩ ?_
  rintro i ⟨il, hJ⟩
  repeat' first | refine zzs ?_ | refine zzr hnt rfl ?_ ?_ | refine zzd hnt rfl ?_ ?_ | refine zzb ?_ | refine zzk ?_
  · exact zzt
  repeat' first | refine zzs ?_ | refine zzb ?_ | refine zzk ?_
  refine tr_cond rfl (fun hc => ?_) (fun hc => ?_)
  · simp only [zz1, zz2, zz3, zz4, zz5, zz6, zz7, zz8] at hc
    (try simp only [lw] at hc)
    (try simp only [zz1, zz2, zz3, zz4, zz5, zz6, zz7, zz8] at hc)
    have hlt : i < ws.length := by omega
    have hg : (ws.map fun t => [eT t]).getD i [] = [eT (ws.getD i [])] := by
      rw [List.getD_eq_getElem?_getD, List.getElem?_map, List.getElem?_eq_getElem hlt, List.getD_eq_getElem?_getD, List.getElem?_eq_getElem hlt]
      rfl
    have hw := hx (ws.getD i []) (by rw [List.getD_eq_getElem?_getD, List.getElem?_eq_getElem hlt]; exact List.getElem_mem hlt)
    have hdr : ws.drop i = ws.getD i [] :: ws.drop (i + 1) := by
      rw [List.drop_eq_getElem_cons hlt, List.getD_eq_getElem?_getD, List.getElem?_eq_getElem hlt]
      rfl
    rw [hdr, List.map_cons, past_cons] at hJ
    repeat' first | refine zzs ?_ | refine zzb ?_ | refine zzk ?_
    first | refine zzr hnt rfl ?_ ?_ | refine zzd hnt rfl ?_ ?_
    · rw [Int.toNat_natCast, hg, lw]
      exact zza
    rw [Int.toNat_natCast, hg]
    generalize ws.getD i [] = x at *
    have hs := sees_fn l ⟨s0.p + i, s0.e⟩ x (wtk x) [] hw
    repeat' first | refine zzs ?_ | refine zzb ?_ | refine zzk ?_
    refine tr_region (zzx hnt rfl ?_ (callV rfl rfl rfl rfl rfl rfl rfl hnt rfl (hs) (zzx hnt rfl ?_ (Lex.nil _)))) ?_
    · exact zza
    · exact zza
    repeat' first | refine zzs ?_ | refine zzb ?_ | refine zzk ?_
    refine tr_cond rfl (fun hc => ?_) (fun hc => ?_)
    · have hc : seesF l ⟨s0.p + i, s0.e⟩ (wtk x) = false := by
        have hc : (!seesF l ⟨s0.p + i, s0.e⟩ (wtk x)) = true := hc
        simpa using hc
      rw [if_neg (by rw [hc]; exact Bool.noConfusion)] at hJ
      have hb := bad_fn l ⟨s0.p + i, s0.e⟩
      repeat' first | refine zzs ?_ | refine zzb ?_ | refine zzk ?_
      refine tr_region (zzx hnt rfl ?_ (call rfl rfl rfl rfl rfl rfl rfl hnt (hb) (zzx hnt rfl ?_ (Lex.nil _)))) ?_
      · exact zzt
      · exact zzt
      rw [← hJ]
      exact tr_ret ⟨.inr rfl, _, _, rfl, zzp, rfl⟩
    have hc : seesF l ⟨s0.p + i, s0.e⟩ (wtk x) = true := by
      have hc : (!seesF l ⟨s0.p + i, s0.e⟩ (wtk x)) = false := hc
      simpa using hc
    rw [if_pos hc] at hJ
    have hp := (sees_iff.1 hc).2.1
    have hp : s0.p + i < l.length := hp
    repeat' first | refine zzs ?_ | refine zzr hnt rfl ?_ ?_ | refine zzd hnt rfl ?_ ?_ | refine zzb ?_ | refine zzk ?_
    · exact zzt
    · exact zzt
    refine ⟨i + 1, ⟨hlt, hJ⟩, by omega, le_of (ad := []) ⟨zzl, zzl, zzl, zzl, zzl, zzl, trivial⟩ (memOk_box rfl rfl (spInc l s0.e (p := s0.p + i) (by omega)) (memOk_box rfl rfl ⟨trivial, rfl, rfl, trivial⟩ trivial))⟩
  simp only [zz1, zz2, zz3, zz4, zz5, zz6, zz7, zz8] at hc
  (try simp only [lw] at hc)
  (try simp only [zz1, zz2, zz3, zz4, zz5, zz6, zz7, zz8] at hc)
  have hi : i = ws.length := by omega
  subst hi
  rw [List.drop_length] at hJ
  refine tr_exit ?_
  rw [← hJ]
  repeat' first | refine zzs ?_ | refine zzr hnt rfl ?_ ?_ | refine zzd hnt rfl ?_ ?_ | refine zzb ?_ | refine zzk ?_
  · exact zzt
  exact tr_ret ⟨.inr rfl, _, _, rfl, zzp, rfl⟩

end Go.Proofs.YtcdifgacoleckaaDoor
namespace Go.Proofs.YtcdifgacoleckaaDoor
open Go Go.RowKit Go.Proofs.YtcdifgacoleckaaDoor.Ab
set_option linter.unusedSimpArgs false
set_option linter.unusedVariables false

def tksOk (l : List Tok) : Prop := l.length ≤ maxLen ∧ ∀ t ∈ l, t.t.length ≤ maxLen
theorem tksOk.at {l : List Tok} (h : tksOk l) {i : Nat} (hi : i < l.length) : (l.getD i tok0).t.length ≤ maxLen := by
  rw [List.getD_eq_getElem?_getD, List.getElem?_eq_getElem hi]
  exact h.2 _ (List.getElem_mem hi)
set_option maxRecDepth 10000 in
set_option maxHeartbeats 2000000 in
theorem kind_fn (l : List Tok) (ho : tksOk l) (s : Spot) : FnG Tryd.prog 33 gK [.agg (.es (eSp l s))] (.one (.e (eI (kindF l s)))) := by
  refine fn_introG (T := tab) tOk Tryd.func33 rfl (by kernel_rfl) (by simp [Tryd.ntmps33]) ?_
  intro X hX
  have hnt : X.nt = 31 := hX
  clear hX
  have h0 : ((eSp l s).getD (0 + 2) E.dflt).int = s.e := rfl
  have h1 : ((eSp l s).getD (0 + 0) E.dflt).xs.length = l.length := List.length_map ..
  have h2 : ((eSp l s).getD (0 + 1) E.dflt).int = (s.p : Int) := rfl
  have hk : s.p < l.length → FnG Tryd.prog 46 gK [.agg (.es (List.take 4 (List.drop 0 (((eSp l s).getD (0 + 0) E.dflt).xs.getD ((eSp l s).getD (0 + 1) E.dflt).int.toNat []))))] (.one (.e (eI (tkF (l.getD s.p tok0))))) := fun h => by
    rw [spGet l s h]
    exact tokenFault_fn _ (ho.at h)
  repeat' first | refine zzs ?_ | refine zzr hnt rfl ?_ ?_ | refine zzd hnt rfl ?_ ?_ | refine zzb ?_ | refine zzk ?_
  · exact zzt
  repeat' first | refine zzs ?_ | refine zzb ?_ | refine zzk ?_
  refine tr_region (zzx hnt rfl ?_ (callVG rfl rfl rfl rfl rfl rfl hnt rfl (fun hq => ?_) rfl (fun hq => (hk (by have hq2 := hq; simp only [zz1, zz2, zz3, zz4, zz5, zz6, zz7, zz8] at hq2; (try simp only [h0, h1, h2] at hq2); (try simp only [zz1, zz2, zz3, zz4, zz5, zz6, zz7, zz8] at hq2); omega))) (zzx hnt rfl ?_ (Lex.nil _)))) ?_
  · (dsimp only [AllP]; (repeat' first | exact trivial | assumption | exact Nat.le_of_ble_eq_true rfl | apply And.intro | exact eCells_len1 _ _ ‹_› | exact eCells_isByte _ _ ‹_› | (intro hh_; have hg_ := hh_; (try simp only [condT_ff, condF_tt, notE_t, notE_f, Bool.and_eq_true, ne_eq, decide_eq_true_eq, decide_eq_false_iff_not] at hg_)) | intro _ | exact rfl | omega))
    all_goals (rw [spGet l s (by omega)]; first | exact rfl | exact Nat.le_of_ble_eq_true rfl)
  · exact zza
  · exact zza
  repeat' first | refine zzs ?_ | refine zzb ?_ | refine zzk ?_
  refine tr_cond rfl (fun hc => ?_) (fun hc => ?_)
  · simp only [zz1, zz2, zz3, zz4, zz5, zz6, zz7, zz8] at hc
    (try simp only [h0, h1, h2] at hc)
    (try simp only [zz1, zz2, zz3, zz4, zz5, zz6, zz7, zz8] at hc)
    have hs : kindF l s = 0 := by
      unfold kindF
      rw [if_pos (by omega)]
    rw [hs]
    repeat' first | refine zzs ?_ | refine zzr hnt rfl ?_ ?_ | refine zzd hnt rfl ?_ ?_ | refine zzb ?_ | refine zzk ?_
    · exact zzt
    exact tr_ret ⟨.inr rfl, _, _, rfl, zzp, rfl⟩
  simp only [zz1, zz2, zz3, zz4, zz5, zz6, zz7, zz8] at hc
  (try simp only [h0, h1, h2] at hc)
  (try simp only [zz1, zz2, zz3, zz4, zz5, zz6, zz7, zz8] at hc)
  have hlt : s.p < l.length := by omega
  have hs : kindF l s = (l.getD s.p tok0).k := by
    unfold kindF
    rw [if_neg (by omega)]
  rw [hs]
  repeat' first | refine zzs ?_ | refine zzb ?_ | refine zzk ?_
  first | refine zzr hnt rfl ?_ ?_ | refine zzd hnt rfl ?_ ?_
  · rw [spGet l s hlt]
    exact zza
  rw [spGet l s hlt]
  exact tr_ret ⟨.inr rfl, _, _, rfl, zzp, rfl⟩
set_option maxRecDepth 10000 in
set_option maxHeartbeats 2000000 in
theorem one_fn (l : List Tok) (ho : tksOk l) (s : Spot) (hk1 : kindF l s = 1) : FnG Tryd.prog 34 gK [.agg (.es (eSp l s)), .one (.e (eI 1))] (.tup [(true, .es (eTok (l.getD s.p tok0))), (true, .es (eSp l ⟨s.p + 1, s.e⟩))]) := by
  refine fn_introG (T := tab) tOk Tryd.func34 rfl (by kernel_rfl) (by simp [Tryd.ntmps34]) ?_
  intro X hX
  have hnt : X.nt = 30 := hX
  clear hX
  have h0 : ((eSp l s).getD (0 + 2) E.dflt).int = s.e := rfl
  have h1 : ((eSp l s).getD (0 + 0) E.dflt).xs.length = l.length := List.length_map ..
  have h2 : ((eSp l s).getD (0 + 1) E.dflt).int = (s.p : Int) := rfl
  have hm' : l.length ≤ 9223372036854775807 := Nat.le_trans ho.1 (by decide)
  obtain ⟨he, hlt, _, _⟩ := kind_lt (l := l) (s := s) (by rw [hk1]; decide)
  have hk := kind_fn l ho s
  rw [hk1] at hk
  repeat' first | refine zzs ?_ | refine zzr hnt rfl ?_ ?_ | refine zzd hnt rfl ?_ ?_ | refine zzb ?_ | refine zzk ?_
  · exact zzt
  repeat' first | refine zzs ?_ | refine zzb ?_ | refine zzk ?_
  refine tr_region (zzx hnt rfl ?_ (callVG rfl rfl rfl rfl rfl rfl hnt rfl (fun hq => ?_) rfl (fun hq => hk) (zzx hnt rfl ?_ (Lex.nil _)))) ?_
  · exact zza
  · exact zza
  · exact zza
  repeat' first | refine zzs ?_ | refine zzb ?_ | refine zzk ?_
  refine tr_cond rfl (fun hc => ?_) (fun hc => ?_)
  · simp only [zz1, zz2, zz3, zz4, zz5, zz6, zz7, zz8] at hc
    (try simp only [h0, h1, h2] at hc)
    (try simp only [zz1, zz2, zz3, zz4, zz5, zz6, zz7, zz8] at hc)
    exact absurd hc (by simp [he])
  repeat' first | refine zzs ?_ | refine zzb ?_ | refine zzk ?_
  first | refine zzr hnt rfl ?_ ?_ | refine zzd hnt rfl ?_ ?_
  · exact zza
  refine tr_le (s' := St.of [(1, .one (.e (eI 1))), (2, .one (.ptr 2 0 0)), (4, .one (.ptr 4 0 0)), (5, .one (.ptr 5 0 0))] [(2, ⟨0, .box (.es (eSp l ⟨s.p + 1, s.e⟩)), 0⟩), (4, ⟨0, .box (.es (eTok tok0)), 0⟩), (5, ⟨0, .box (.ds [.nil, .e (eI 0), .e (eI 0)]), 0⟩)]) (le_of (ad := []) ⟨zzl, zzl, zzl, zzl, trivial⟩ (memOk_box rfl rfl (spInc l s.e (p := s.p) (by omega)) (memOk_box rfl rfl rfl (memOk_box rfl rfl ⟨trivial, rfl, rfl, trivial⟩ trivial)))) ?_
  have hi : (IntKind.i64.wrap (((eSp l ⟨s.p + 1, s.e⟩).getD (0 + 1) E.dflt).int - 1)) = (s.p : Int) := by
    show IntKind.i64.wrap (((s.p + 1 : Nat) : Int) - 1) = _
    rw [wrap64_id (by omega) (by omega)]
    omega
  have hg : ((eSp l ⟨s.p + 1, s.e⟩).getD (0 + 0) E.dflt).xs.getD (IntKind.i64.wrap (((eSp l ⟨s.p + 1, s.e⟩).getD (0 + 1) E.dflt).int - 1)).toNat [] = eTok (l.getD s.p tok0) := by
    rw [hi]
    exact tksGet l hlt
  have h1' : ((eSp l ⟨s.p + 1, s.e⟩).getD (0 + 0) E.dflt).xs.length = l.length := List.length_map ..
  repeat' first | refine zzs ?_ | refine zzb ?_ | refine zzk ?_
  first | refine zzr hnt rfl ?_ ?_ | refine zzd hnt rfl ?_ ?_
  · rw [hg, hi, h1']
    exact zza
  rw [hg]
  exact tr_ret ⟨.inr rfl, _, _, rfl, zzp, rfl⟩
def msS (l : List Tok) (s : Spot) : List (Nat × Blk) := [(900000, ⟨0, .box (.es (eSp l s)), 0⟩)]
abbrev ptS : D := .one (.ptr 900000 0 0)
set_option maxRecDepth 10000 in
set_option maxHeartbeats 2000000 in
theorem lit_fn (l : List Tok) (s : Spot) (v : Val) (hlt : s.p < 9223372036854775807) : FnH Tryd.prog 32 [] (msS l s) [.agg (.es (eVal v)), ptS] (.tup [(true, .es (eEx (litE v))), (true, .es (eSp l ⟨s.p + 1, s.e⟩))]) (msS l ⟨s.p + 1, s.e⟩) := by
  refine fn_introH (T := tab) tOk Tryd.func32 rfl (by kernel_rfl) (by simp [Tryd.ntmps32]) rfl rfl ?_
  intro X hX
  have hnt : X.nt = 12 := hX
  clear hX
  have h0 : ((eSp l s).getD (0 + 2) E.dflt).int = s.e := rfl
  have h1 : ((eSp l s).getD (0 + 0) E.dflt).xs.length = l.length := List.length_map ..
  have h2 : ((eSp l s).getD (0 + 1) E.dflt).int = (s.p : Int) := rfl
  have he : eEx (litE v) = [eI 1, eI v.k, eI v.i, eQ v.b, eT v.t, eT [], .sl []] := by
    unfold litE
    rw [eEx_mk]
    rfl
  rw [he]
  repeat' first | refine zzs ?_ | refine zzr hnt rfl ?_ ?_ | refine zzd hnt rfl ?_ ?_ | refine zzb ?_ | refine zzk ?_
  · exact zzt
  · exact zzt
  · exact zzt
  exact tr_ret ⟨.inr rfl, _, _, _, rfl, zzp, rfl, fun X => le_of (ad := []) ⟨⟨⟨rfl, ⟨rfl, rfl, rfl, rfl, rfl, rfl, rfl, trivial⟩⟩, ⟨rfl, (spInc l s.e hlt)⟩, trivial⟩, ⟨rfl, rfl, rfl, rfl, rfl⟩, trivial⟩ (memOk_box rfl rfl (spInc l s.e hlt) trivial)⟩
end Go.Proofs.YtcdifgacoleckaaDoor
namespace Go.Proofs.YtcdifgacoleckaaDoor
open Go Go.RowKit Go.Proofs.YtcdifgacoleckaaDoor.Ab
set_option linter.unusedSimpArgs false
set_option linter.unusedVariables false

set_option maxRecDepth 10000 in
set_option maxHeartbeats 2000000 in
theorem binds_fn (op : Nat) (h1 : 5 ≤ op) (h2 : op < 20) : FnD Tryd.prog 35 [.one (.e (eI (op : Int)))] (.one (.e (eI (lvF op - 1)))) := by
  refine fn_intro (T := tab) tOk Tryd.func35 rfl (by kernel_rfl) (by simp [Tryd.ntmps35]) ?_
  intro X hX
  have hnt : X.nt = 34 := hX
  clear hX
  rcases (by omega : op = 5 ∨ op = 6 ∨ op = 7 ∨ op = 8 ∨ op = 9 ∨ op = 10 ∨ op = 11 ∨ op = 12 ∨ op = 13 ∨ op = 14 ∨ op = 15 ∨ op = 16 ∨ op = 17 ∨ op = 18 ∨ op = 19) with rfl | rfl | rfl | rfl | rfl | rfl | rfl | rfl | rfl | rfl | rfl | rfl | rfl | rfl | rfl
  all_goals repeat' (first | refine tr_seq ?_ | refine tr_block ?_ | refine tr_skip ?_ | refine tr_unroll 30 ?_ | refine rounds_go ?_ | refine tr_exit ?_ | refine reg (T := tab) tOk hnt rfl (by exact zzt) ?_ | refine regD (T := tab) tOk mixedR hnt rfl (by first | decide +kernel | kernel_rfl) (by exact zzt) ?_ | refine tr_cond rfl (fun hc => ?_) (fun hc => absurd (show true = false from hc) Bool.noConfusion) | refine tr_cond rfl (fun hc => absurd (show false = true from hc) Bool.noConfusion) (fun hc => ?_))
  all_goals exact tr_ret ⟨.inr rfl, _, _, rfl, trivial, rfl⟩
def mwL : List Byt := [[], [], [], [], [], [43], [45], [42], [47], [61], [60, 62], [60], [60, 61], [62], [62, 61], [65, 78, 68], [79, 82], [], [], [124, 124], []]
set_option maxRecDepth 10000
set_option maxHeartbeats 2000000
theorem fl43 : Fld [43] [[43]] := zzF


theorem fl42 : Fld [42] [[42]] := zzF


theorem fl47 : Fld [47] [[47]] := zzF


theorem fl61 : Fld [61] [[61]] := zzF


theorem fl602 : Fld [60, 62] [[60, 62]] := zzF


theorem fl60 : Fld [60] [[60]] := zzF


theorem fl601 : Fld [60, 61] [[60, 61]] := zzF


theorem fl62 : Fld [62] [[62]] := zzF


theorem fl621 : Fld [62, 61] [[62, 61]] := zzF


theorem flAnd : Fld [65, 78, 68] [[65, 78, 68]] := zzF


theorem flOr : Fld [79, 82] [[79, 82]] := zzF


theorem flCat : Fld [124, 124] [[124, 124]] := zzF


theorem flIs : Fld [73, 83] [[73, 83]] := zzF


theorem flLn : Fld [76, 69, 78, 71, 84, 72] [[76, 69, 78, 71, 84, 72]] := zzF


theorem flCo : Fld [67, 79, 65, 76, 69, 83, 67, 69] [[67, 79, 65, 76, 69, 83, 67, 69]] := zzF


theorem tk1 {w : Byt} (h : Fld w [w]) (h0 : 0 < w.length) : Tks w [wtk w] := tokens_gen _ _ h (by intro x hx; rw [List.mem_singleton.1 hx]; exact h0) (Nat.le_of_ble_eq_true rfl)
theorem tkM (k : Nat) (h1 : 5 ≤ k) (h2 : k < 20) (hne : mwL.getD k [] ≠ []) : Tks (mwL.getD k []) [mkS (k : Int)] := by
  rcases (by omega : k = 5 ∨ k = 6 ∨ k = 7 ∨ k = 8 ∨ k = 9 ∨ k = 10 ∨ k = 11 ∨ k = 12 ∨ k = 13 ∨ k = 14 ∨ k = 15 ∨ k = 16 ∨ k = 17 ∨ k = 18 ∨ k = 19) with rfl | rfl | rfl | rfl | rfl | rfl | rfl | rfl | rfl | rfl | rfl | rfl | rfl | rfl | rfl
  · exact tk1 fl43 (by decide)
  · exact tk1 fields_a (by decide)
  · exact tk1 fl42 (by decide)
  · exact tk1 fl47 (by decide)
  · exact tk1 fl61 (by decide)
  · exact tk1 fl602 (by decide)
  · exact tk1 fl60 (by decide)
  · exact tk1 fl601 (by decide)
  · exact tk1 fl62 (by decide)
  · exact tk1 fl621 (by decide)
  · exact tk1 flAnd (by decide)
  · exact tk1 flOr (by decide)
  · exact absurd rfl hne
  · exact absurd rfl hne
  · exact tk1 flCat (by decide)
end Go.Proofs.YtcdifgacoleckaaDoor
namespace Go.Proofs.YtcdifgacoleckaaDoor
open Go Go.RowKit Go.Proofs.YtcdifgacoleckaaDoor.Ab
set_option linter.unusedSimpArgs false
set_option linter.unusedVariables false

def opFrom (f : Int → Bool) (lv : Nat) : Nat → Nat → Int
  | 0, _ => 0
  | n + 1, k => if (decide ((k : Int) ∈ opsF lv) && f (k : Int)) = true then (k : Int) else opFrom f lv n (k + 1)
theorem opFrom_eq (f : Int → Bool) (lv : Nat) (hv : lv = 0 ∨ lv = 1 ∨ lv = 3 ∨ lv = 4 ∨ lv = 5 ∨ lv = 6) : (((opsF lv).find? f).getD 0) = opFrom f lv 15 5 := by
  rcases hv with rfl | rfl | rfl | rfl | rfl | rfl
  · cases h1 : f 16 <;> simp [opFrom, opsF, h1]
  · cases h1 : f 15 <;> simp [opFrom, opsF, h1]
  · cases h1 : f 9 <;> cases h2 : f 10 <;> cases h3 : f 11 <;> cases h4 : f 12 <;> cases h5 : f 13 <;> cases h6 : f 14 <;> simp [opFrom, opsF, h1, h2, h3, h4, h5, h6]
  · cases h1 : f 19 <;> simp [opFrom, opsF, h1]
  · cases h1 : f 5 <;> cases h2 : f 6 <;> simp [opFrom, opsF, h1, h2]
  · cases h1 : f 7 <;> cases h2 : f 8 <;> simp [opFrom, opsF, h1, h2]
theorem mkGet (k : Nat) (h : k < 21) : mkE.getD k E.dflt = eT (mwL.getD k []) := by
  show (mwL.map eT).getD k E.dflt = _
  rw [List.getD_eq_getElem?_getD, List.getElem?_map, List.getElem?_eq_getElem h, List.getD_eq_getElem?_getD, List.getElem?_eq_getElem h]
  rfl
theorem lvIn (k lv : Nat) (h1 : 5 ≤ k) (h2 : k < 20) (hv : lv = 0 ∨ lv = 1 ∨ lv = 3 ∨ lv = 4 ∨ lv = 5 ∨ lv = 6) : ((k : Int) ∈ opsF lv) ↔ (mwL.getD k [] ≠ [] ∧ lvF k - 1 = (lv : Int)) := by
  rcases (by omega : k = 5 ∨ k = 6 ∨ k = 7 ∨ k = 8 ∨ k = 9 ∨ k = 10 ∨ k = 11 ∨ k = 12 ∨ k = 13 ∨ k = 14 ∨ k = 15 ∨ k = 16 ∨ k = 17 ∨ k = 18 ∨ k = 19) with rfl | rfl | rfl | rfl | rfl | rfl | rfl | rfl | rfl | rfl | rfl | rfl | rfl | rfl | rfl <;> rcases hv with rfl | rfl | rfl | rfl | rfl | rfl <;> decide
set_option maxRecDepth 10000 in
set_option maxHeartbeats 2000000 in
theorem opAt_fn (l : List Tok) (s : Spot) (lv : Nat) (hv : lv = 0 ∨ lv = 1 ∨ lv = 3 ∨ lv = 4 ∨ lv = 5 ∨ lv = 6) : FnG Tryd.prog 20 ([(0, mkE),(1, spE)]) [.agg (.es (eSp l s)), .one (.e (eI (lv : Int)))] (.one (.e (eI (opAtF l s lv)))) := by
  refine fn_introG (T := tab) tOk Tryd.func20 rfl (by kernel_rfl) (by simp [Tryd.ntmps20]) ?_
  intro X hX
  have hnt : X.nt = 28 := hX
  clear hX
  repeat' first | refine zzs ?_ | refine zzr hnt rfl ?_ ?_ | refine zzd hnt rfl ?_ ?_ | refine zzb ?_ | refine zzk ?_
  · exact zzt
  · exact zzt
  repeat' first | refine zzs ?_ | refine zzb ?_ | refine zzk ?_
  refine tr_loop (σ := Nat) (fun k => St.of [(1, .one (.e (eI (lv : Int)))), (2, .one (.ptr 2 0 0)), (5, .one (.e (eI (k : Int)))), ((1000000 + 0), .one (.eptr mkE)), ((1000000 + 1), .one (.eptr spE))] [(2, ⟨0, .box (.es (eSp l s)), 0⟩)]) (fun k => 5 ≤ k ∧ k ≤ 20 ∧ opAtF l s lv = opFrom (fun op => seesF l s (mkS op)) lv (20 - k) k) (fun k => 20 - k) (5) (le_of (ad := []) ⟨zzl, zzl, zzl, zzl, zzl, trivial⟩ (memOk_box rfl rfl rfl trivial)) ⟨by decide, by decide, opFrom_eq _ lv hv⟩ ?_
  rintro k ⟨k5, k20, hJ⟩
  repeat' first | refine zzs ?_ | refine zzr hnt rfl ?_ ?_ | refine zzd hnt rfl ?_ ?_ | refine zzb ?_ | refine zzk ?_
  · exact zzt
  repeat' first | refine zzs ?_ | refine zzb ?_ | refine zzk ?_
  refine tr_cond rfl (fun hc => ?_) (fun hc => ?_)
  · simp only [zz1, zz2, zz3, zz4, zz5, zz6, zz7, zz8] at hc
    have hk : k < 20 := by omega
    obtain ⟨n, hn⟩ : ∃ n, 20 - k = n + 1 := ⟨19 - k, by omega⟩
    rw [hn, opFrom] at hJ
    have hb := binds_fn k k5 hk
    have hst1 : (List.drop ((k : Int).toNat * 1) mkE).getD 0 E.dflt = eT (mwL.getD k []) := by
      rw [Int.toNat_natCast, Nat.mul_one, List.getD_eq_getElem?_getD, List.getElem?_drop, ← List.getD_eq_getElem?_getD]
      exact mkGet k (by omega)
    have hst : ((List.drop ((k : Int).toNat * 1) mkE).getD 0 E.dflt).str = strB (mwL.getD k []) := by
      rw [hst1]
      rfl
    have hL : 0 < (Cs.es (List.drop ((k : Int).toNat * 1) mkE)).len := by
      show 0 < (List.drop ((k : Int).toNat * 1) mkE).length
      rw [Int.toNat_natCast, Nat.mul_one, List.length_drop]
      show 0 < 21 - k
      omega
    have hA : D0.isA K.str ((Cs.es (List.drop ((k : Int).toNat * 1) mkE)).at 0) := by
      show D0.isA K.str (.e ((List.drop ((k : Int).toNat * 1) mkE).getD 0 E.dflt))
      rw [hst1]
      exact rfl
    have hs : mwL.getD k [] ≠ [] → FnG Tryd.prog 17 [(1, spE)] [.agg (.es (eSp l s)), .one (.e (.v (.string ((List.drop ((k : Int).toNat * 1) mkE).getD 0 E.dflt).str)))] (.v (.bool (seesF l s (mkS (k : Int))))) := fun h => by
      rw [hst]
      exact sees_fn l s _ _ [] (tkM k k5 hk h)
    repeat' first | refine zzs ?_ | refine zzb ?_ | refine zzk ?_
    refine tr_draw (T := tab) tOk hnt mixedR (lexD (T := tab) rfl ?_ (callGD rfl rfl rfl rfl rfl rfl rfl rfl (fun hq => ?_) (fun hq => hb) (lexD (T := tab) rfl ?_ (callVGD rfl rfl rfl rfl rfl rfl rfl rfl (fun hq => ?_) rfl (fun hq => (hs (by have hq2 := hq; simp only [zz1, zz2, zz3, zz4, zz5, zz6, zz7, zz8] at hq2; intro h; exact absurd hq2.1 (by rw [hst, h]; show ¬ strEq (strB []) (strB []) = false; rw [strEq_B]; decide)))) (lexD (T := tab) rfl ?_ (.nil _)))))) (by first | decide +kernel | kernel_rfl) ?_
    · (dsimp only [AllP]; (repeat' first | exact trivial | assumption | exact Nat.le_of_ble_eq_true rfl | apply And.intro | exact eCells_len1 _ _ ‹_› | exact eCells_isByte _ _ ‹_› | (intro hh_; have hg_ := hh_; (try simp only [condT_ff, condF_tt, notE_t, notE_f, Bool.and_eq_true, ne_eq, decide_eq_true_eq, decide_eq_false_iff_not] at hg_)) | intro _ | exact rfl | omega))
      all_goals trace_state
    · (dsimp only [AllP]; (repeat' first | exact trivial | assumption | exact Nat.le_of_ble_eq_true rfl | apply And.intro | exact eCells_len1 _ _ ‹_› | exact eCells_isByte _ _ ‹_› | (intro hh_; have hg_ := hh_; (try simp only [condT_ff, condF_tt, notE_t, notE_f, Bool.and_eq_true, ne_eq, decide_eq_true_eq, decide_eq_false_iff_not] at hg_)) | intro _ | exact rfl | omega))
      all_goals trace_state
    · (dsimp only [AllP]; (repeat' first | exact trivial | assumption | exact Nat.le_of_ble_eq_true rfl | apply And.intro | exact eCells_len1 _ _ ‹_› | exact eCells_isByte _ _ ‹_› | (intro hh_; have hg_ := hh_; (try simp only [condT_ff, condF_tt, notE_t, notE_f, Bool.and_eq_true, ne_eq, decide_eq_true_eq, decide_eq_false_iff_not] at hg_)) | intro _ | exact rfl | omega))
      all_goals trace_state
    · (dsimp only [AllP]; (repeat' first | exact trivial | assumption | exact Nat.le_of_ble_eq_true rfl | apply And.intro | exact eCells_len1 _ _ ‹_› | exact eCells_isByte _ _ ‹_› | (intro hh_; have hg_ := hh_; (try simp only [condT_ff, condF_tt, notE_t, notE_f, Bool.and_eq_true, ne_eq, decide_eq_true_eq, decide_eq_false_iff_not] at hg_)) | intro _ | exact rfl | omega))
      all_goals trace_state
    · (dsimp only [AllP]; (repeat' first | exact trivial | assumption | exact Nat.le_of_ble_eq_true rfl | apply And.intro | exact eCells_len1 _ _ ‹_› | exact eCells_isByte _ _ ‹_› | (intro hh_; have hg_ := hh_; (try simp only [condT_ff, condF_tt, notE_t, notE_f, Bool.and_eq_true, ne_eq, decide_eq_true_eq, decide_eq_false_iff_not] at hg_)) | intro _ | exact rfl | omega))
      all_goals trace_state
    have hN : strEq (strB (mwL.getD k [])) (strB []) = decide (mwL.getD k [] = []) := strEq_B _ _
    have hin := lvIn k lv k5 hk hv
    rw [hst]
    repeat' first | refine zzs ?_ | refine zzb ?_ | refine zzk ?_
    refine tr_cond rfl (fun hc => ?_) (fun hc => ?_)
    · have hc : (bif (bif !strEq (strB (mwL.getD k [])) (strB []) then decide (lvF (k : Int) - 1 = (lv : Int)) else false) then seesF l s (mkS (k : Int)) else false) = true := hc
      rw [hN] at hc
      simp only [condF_tt, notE_t, decide_eq_true_eq, decide_eq_false_iff_not] at hc
      rw [if_pos (by rw [Bool.and_eq_true, decide_eq_true_eq]; exact ⟨hin.2 hc.1, hc.2⟩)] at hJ
      rw [hJ]
      repeat' first | refine zzs ?_ | refine zzr hnt rfl ?_ ?_ | refine zzd hnt rfl ?_ ?_ | refine zzb ?_ | refine zzk ?_
      · exact zzt
      exact tr_ret ⟨.inr rfl, _, _, rfl, zzp, rfl⟩
    have hc : (bif (bif !strEq (strB (mwL.getD k [])) (strB []) then decide (lvF (k : Int) - 1 = (lv : Int)) else false) then seesF l s (mkS (k : Int)) else false) = false := hc
    rw [hN] at hc
    rw [if_neg (fun h => by
      rw [Bool.and_eq_true, decide_eq_true_eq] at h
      have h1 := hin.1 h.1
      rw [decide_eq_false h1.1, decide_eq_true h1.2, h.2] at hc
      exact Bool.noConfusion hc)] at hJ
    repeat' first | refine zzs ?_ | refine zzr hnt rfl ?_ ?_ | refine zzd hnt rfl ?_ ?_ | refine zzb ?_ | refine zzk ?_
    · exact zzt
    refine ⟨k + 1, ⟨by omega, by omega, by rw [show 20 - (k + 1) = n by omega]; exact hJ⟩, by omega, le_of (ad := []) ⟨zzl, zzl, zzl, zzl, zzl, trivial⟩ (memOk_box rfl rfl rfl trivial)⟩
  simp only [zz1, zz2, zz3, zz4, zz5, zz6, zz7, zz8] at hc
  have hk : k = 20 := by omega
  subst hk
  refine tr_exit ?_
  have hz : opAtF l s lv = 0 := hJ
  rw [hz]
  repeat' first | refine zzs ?_ | refine zzr hnt rfl ?_ ?_ | refine zzd hnt rfl ?_ ?_ | refine zzb ?_ | refine zzk ?_
  · exact zzt
  exact tr_ret ⟨.inr rfl, _, _, rfl, zzp, rfl⟩
end Go.Proofs.YtcdifgacoleckaaDoor
