/- Part of the proof: steps of the program over abstract states. No condition. -/
import Derived.Test.YtcdifgacoleckaaGreatDoorG06
import Derived.Test.YtcdifgacoleckaaGreatDoorG07
import Derived.Test.YtcdifgacoleckaaGreatDoorG05
import Derived.Recover
set_option linter.unusedVariables false
set_option linter.unusedSimpArgs false
namespace Go.Proofs.YtcdifgacoleckaaGreatDoor
open Go Go.RowKit Go.Proofs.YtcdifgacoleckaaGreatDoor.Ab
set_option maxRecDepth 100000
set_option maxHeartbeats 4000000
theorem zTL {a b : Tok} : a = b ↔ a.k = b.k /\ a.t = b.t /\ a.i = b.i /\ a.b = b.b := by
 obtain ⟨k, t, i, x⟩ := a
 obtain ⟨k', t', i', x'⟩ := b
 simp
instance : DecidableEq Tok := fun _ _ => decidable_of_iff' _ zTL
structure Spot where
 p : Nat
 e : Int
def zBj : Tok := ⟨0, [], 0, 0⟩
def zAc (l : List Tok) (s : Spot) (t : Tok) : Bool := decide (s.e = 0 /\ s.p < l.length /\ l.getD s.p zBj = t)
def zBQ (l : List Tok) (s : Spot) : Spot := if s.e = 0 then ⟨s.p, if l.length <= s.p then 4 else 3⟩ else s
def zAk (l : List Tok) : Spot -> List Tok -> Spot
 | s, [] => s
 | s, t :: r => if zAc l s t = true then zAk l ⟨s.p + 1, s.e⟩ r else zBQ l s
def zAU (l : List Tok) (s : Spot) : Int := if s.e ≠ 0 \/ l.length <= s.p \/ tkF (l.getD s.p zBj) ≠ 0 then 0 else (l.getD s.p zBj).k
def zDJ (lv : Nat) : List Int := match lv with
 | 0 => [16]
 | 1 => [15]
 | 3 => [9, 10, 11, 12, 13, 14]
 | 4 => [19]
 | 5 => [5, 6]
 | 6 => [7, 8]
 | _ => []
def zDc (l : List Tok) (s : Spot) (lv : Nat) : Int := ((zDJ lv).find? fun op => zAc l s (mkS op)).getD 0
def zIe : Tok := wdT [78, 79, 84]
def zGx : Tok := sgT [45]
def zCS : Tok := wdT [73, 83]
def zB8 : Tok := wdT [78, 85, 76, 76]
def zLK : Tok := wdT [84, 82, 85, 69]
def zLL : Tok := wdT [70, 65, 76, 83, 69]
def zBf : Tok := sgT [40]
def zB7 : Tok := sgT [41]
def zFo : Tok := sgT [44]
def zDz : Tok := wdT [76, 69, 78, 71, 84, 72]
def zDa : Tok := wdT [67, 79, 65, 76, 69, 83, 67, 69]
def zEi (v : Val) : Ex := .mk 1 v [] []
def lpF (l : List Tok) (nx : Spot -> Ex × Spot) (lv : Nat) : Nat -> Ex -> Spot -> Ex × Spot
 | 0, e, t => (e, t)
 | n + 1, e, t =>
  if t.e ≠ 0 then (e, t) else
  if zDc l t lv = 0 then (e, t) else
  if lv = 3 then (.mk (zDc l t lv) zBD [] [e, (nx ⟨t.p + 1, t.e⟩).1], (nx ⟨t.p + 1, t.e⟩).2)
  else lpF l nx lv n (.mk (zDc l t lv) zBD [] [e, (nx ⟨t.p + 1, t.e⟩).1]) (nx ⟨t.p + 1, t.e⟩).2
def zA3 (l : List Tok) (c0 : Spot -> Ex × Spot) (s : Spot) : Ex × Spot :=
 if zAc l s zB8 = true then (zEi zBD, ⟨s.p + 1, s.e⟩) else
 if zAc l s zLK = true then (zEi ⟨1, 1, 0, []⟩, ⟨s.p + 1, s.e⟩) else
 if zAc l s zLL = true then (zEi ⟨1, 0, 0, []⟩, ⟨s.p + 1, s.e⟩) else
 if zAc l s zBf = true then ((c0 (zAk l s [zBf])).1, zAk l (c0 (zAk l s [zBf])).2 [zB7]) else
 if zAc l s zDz = true then (.mk 18 zBD [] [(c0 (zAk l s [zDz, zBf])).1], zAk l (c0 (zAk l s [zDz, zBf])).2 [zB7]) else
 if zAc l s zDa = true then
  (.mk 20 zBD [] [(c0 (zAk l s [zDa, zBf])).1, (c0 (zAk l (c0 (zAk l s [zDa, zBf])).2 [zFo])).1], zAk l (c0 (zAk l (c0 (zAk l s [zDa, zBf])).2 [zFo])).2 [zB7]) else
 if zAU l s = 1 then (.mk 2 zBD (l.getD s.p zBj).t [], ⟨s.p + 1, s.e⟩) else
 if zAU l s = 3 then (zEi ⟨2, (l.getD s.p zBj).i, 0, []⟩, ⟨s.p + 1, s.e⟩) else
 if zAU l s = 5 then (zEi ⟨3, 0, (l.getD s.p zBj).b, []⟩, ⟨s.p + 1, s.e⟩) else
 if zAU l s = 4 then (zEi ⟨4, 0, 0, (l.getD s.p zBj).t⟩, ⟨s.p + 1, s.e⟩) else (ex0, zBQ l s)
def zAd (l : List Tok) : Nat -> Nat -> Spot -> Ex × Spot
 | 0, _, s => (ex0, s)
 | n + 1, lv, s =>
  if lv = 2 then
   if zAc l s zIe = true then (.mk 4 zBD [] [(zAd l n 2 (zAk l s [zIe])).1], (zAd l n 2 (zAk l s [zIe])).2) else zAd l n 3 s
  else if lv = 7 then
   if zAc l s zGx = true then (.mk 3 zBD [] [(zAd l n 7 (zAk l s [zGx])).1], (zAd l n 7 (zAk l s [zGx])).2) else zA3 l (zAd l n 0) s
  else if lv = 3 /\ zAc l (zAd l n (lv + 1) s).2 zCS = true then (.mk 17 zBD [] [(zAd l n (lv + 1) s).1], zAk l (zAd l n (lv + 1) s).2 [zCS, zB8])
  else lpF l (zAd l n (lv + 1)) lv (l.length + 1) (zAd l n (lv + 1) s).1 (zAd l n (lv + 1) s).2
theorem zAw {l : List Tok} {s : Spot} {t : Tok} : zAc l s t = true ↔ s.e = 0 /\ s.p < l.length /\ l.getD s.p zBj = t := by
 unfold zAc
 exact decide_eq_true_iff
theorem zAV {l : List Tok} {s : Spot} {t : Tok} (h : s.e ≠ 0) : zAc l s t = false := by
 cases hs : zAc l s t with
 | false => rfl
 | true => exact absurd (zAw.1 hs).1 h
theorem zBJ {l : List Tok} {s : Spot} {ts : List Tok} (h : s.e ≠ 0) : zAk l s ts = s := by
 cases ts with
 | nil => rfl
 | cons t r =>
  unfold zAk
  rw [if_neg (by rw [zAV h]; exact Bool.noConfusion)]
  unfold zBQ
  rw [if_neg h]
theorem zFb {l : List Tok} {s : Spot} (h : s.e ≠ 0) : zAU l s = 0 := by
 unfold zAU
 rw [if_pos (.inl h)]
theorem zJT {l : List Tok} {nx : Spot -> Ex × Spot} {lv n : Nat} {e : Ex} {t : Spot} (h : t.e ≠ 0) : lpF l nx lv n e t = (e, t) := by
 cases n with
 | zero => rfl
 | succ n =>
  unfold lpF
  rw [if_pos h]
theorem zNs {l : List Tok} {c0 : Spot -> Ex × Spot} {s : Spot} (h : s.e ≠ 0) : zA3 l c0 s = (ex0, s) := by
 unfold zA3
 simp only [zAV h, zFb h]
 unfold zBQ
 rw [if_neg h]
 simp
theorem zCd {l : List Tok} {s : Spot} (h : s.e ≠ 0) : ∀ (n lv : Nat), zAd l n lv s = (ex0, s)
 | 0, _ => rfl
 | n + 1, lv => by
  rw [zAd]
  simp only [zAV h, zCd h n, zNs h, zJT h]
  simp
def Fwd (l : List Tok) (f : Spot -> Ex × Spot) : Prop := ∀ s, s.p <= (f s).2.p /\ (s.p <= l.length -> (f s).2.p <= l.length)
theorem zKp (l : List Tok) (s : Spot) : (zBQ l s).p = s.p := by
 unfold zBQ
 split <;> rfl
theorem zAo (l : List Tok) : ∀ (ts : List Tok) (s : Spot), s.p <= (zAk l s ts).p /\ (s.p <= l.length -> (zAk l s ts).p <= l.length)
 | [], s => ⟨Nat.le_refl _, id⟩
 | t :: r, s => by
  unfold zAk
  split
  ·rename_i h
   have h1 := (zAw.1 h).2.1
   have ih := zAo l r ⟨s.p + 1, s.e⟩
   exact ⟨Nat.le_trans (Nat.le_succ _) ih.1, fun _ => ih.2 h1⟩
  ·rw [zKp]
   exact ⟨Nat.le_refl _, id⟩
theorem zOz {l : List Tok} {s : Spot} {lv : Nat} (h : zDc l s lv ≠ 0) : s.e = 0 /\ s.p < l.length := by
 unfold zDc at h
 cases hf : (zDJ lv).find? fun op => zAc l s (mkS op) with
 | none => rw [hf] at h; exact absurd rfl h
 | some o =>
  have := List.find?_some hf
  have := zAw.1 this
  exact ⟨this.1, this.2.1⟩
theorem zRM {l : List Tok} {nx : Spot -> Ex × Spot} (hn : Fwd l nx) {lv : Nat} : ∀ (n : Nat) (e : Ex) (t : Spot), t.p <= (lpF l nx lv n e t).2.p /\ (t.p <= l.length -> (lpF l nx lv n e t).2.p <= l.length)
 | 0, e, t => ⟨Nat.le_refl _, id⟩
 | n + 1, e, t => by
  unfold lpF
  split
  ·exact ⟨Nat.le_refl _, id⟩
  ·split
   ·exact ⟨Nat.le_refl _, id⟩
   ·rename_i h0
    have h1 := (zOz h0).2
    have h2 := hn ⟨t.p + 1, t.e⟩
    have h3 : t.p + 1 <= (nx ⟨t.p + 1, t.e⟩).2.p := h2.1
    have h4 := h2.2 h1
    split
    ·exact ⟨Nat.le_trans (Nat.le_succ _) h3, fun _ => h4⟩
    ·have ih := zRM (lv := lv) hn n (.mk (zDc l t lv) zBD [] [e, (nx ⟨t.p + 1, t.e⟩).1]) (nx ⟨t.p + 1, t.e⟩).2
     exact ⟨Nat.le_trans (Nat.le_trans (Nat.le_succ _) h3) ih.1, fun _ => ih.2 h4⟩
theorem zCj {l : List Tok} {s : Spot} (h : zAU l s ≠ 0) : s.e = 0 /\ s.p < l.length /\ tkF (l.getD s.p zBj) = 0 /\ zAU l s = (l.getD s.p zBj).k := by
 unfold zAU at h ⊢
 split at h
 ·exact absurd rfl h
 ·rename_i h0
  rw [if_neg h0]
  refine ⟨Classical.byContradiction fun e => h0 (.inl e), Nat.lt_of_not_le fun e => h0 (.inr (.inl e)), Classical.byContradiction fun e => h0 (.inr (.inr e)), rfl⟩
theorem zAH {l : List Tok} {s : Spot} {t : Tok} (h : zAc l s t = true) : s.p <= s.p + 1 /\ (s.p <= l.length -> s.p + 1 <= l.length) := ⟨Nat.le_succ _, fun _ => (zAw.1 h).2.1⟩
theorem Fwd.past {l : List Tok} {c0 : Spot -> Ex × Spot} (hc : Fwd l c0) (s : Spot) (ts : List Tok) : s.p <= (c0 (zAk l s ts)).2.p /\ (s.p <= l.length -> (c0 (zAk l s ts)).2.p <= l.length) :=
 ⟨Nat.le_trans (zAo l ts s).1 (hc _).1, fun h => (hc _).2 ((zAo l ts s).2 h)⟩
theorem zAu {l : List Tok} {s t u : Spot} (h : s.p <= t.p /\ (s.p <= l.length -> t.p <= l.length)) (k : t.p <= u.p /\ (t.p <= l.length -> u.p <= l.length)) : s.p <= u.p /\ (s.p <= l.length -> u.p <= l.length) :=
 ⟨Nat.le_trans h.1 k.1, fun q => k.2 (h.2 q)⟩
theorem zNr {l : List Tok} {c0 : Spot -> Ex × Spot} (hc : Fwd l c0) : Fwd l (zA3 l c0) := by
 intro s
 unfold zA3
 split
 ·rename_i h; exact zAH h
 split
 ·rename_i h; exact zAH h
 split
 ·rename_i h; exact zAH h
 split
 ·exact zAu (hc.past s _) (zAo l _ _)
 split
 ·exact zAu (hc.past s _) (zAo l _ _)
 split
 ·exact zAu (zAu (hc.past s _) (hc.past _ _)) (zAo l _ _)
 have k : ∀ {q : Int}, zAU l s = q -> q ≠ 0 -> s.p <= s.p + 1 /\ (s.p <= l.length -> s.p + 1 <= l.length) := fun h hq => ⟨Nat.le_succ _, fun _ => (zCj (by rw [h]; exact hq)).2.1⟩
 split
 ·rename_i h; exact k h (by decide)
 split
 ·rename_i h; exact k h (by decide)
 split
 ·rename_i h; exact k h (by decide)
 split
 ·rename_i h; exact k h (by decide)
 rw [zKp]
 exact ⟨Nat.le_refl _, id⟩
theorem zA4 (l : List Tok) : ∀ (n lv : Nat), Fwd l (zAd l n lv)
 | 0, _ => fun s => ⟨Nat.le_refl _, id⟩
 | n + 1, lv => by
  intro s
  rw [zAd]
  split
  ·split
   ·exact (zA4 l n 2).past s _
   ·exact zA4 l n 3 s
  ·split
   ·split
    ·exact (zA4 l n 7).past s _
    ·exact zNr (zA4 l n 0) s
   ·split
    ·exact zAu (zA4 l n (lv + 1) s) (zAo l _ _)
    ·exact zAu (zA4 l n (lv + 1) s) (zRM (zA4 l n (lv + 1)) _ _ _)
def eSp (l : List Tok) (s : Spot) : List E := [zFU l, eI (s.p : Int), eI s.e]
theorem zKq (l : List Tok) (s : Spot) : FnD Tryz.prog 65 [.agg (.es (eSp l s))] (.agg (.es (eSp l (zBQ l s)))) := by
 refine zD 15 Tryz.func65 fun X hnt => ?_
 have lw : (l.map zBO).length = l.length := List.length_map ..
 repeat' first | refine zx ?_ | fail
 refine zc (fun hc => ?_) fun hc => ?_
 ·have hc : s.e = 0 := of_decide_eq_true hc
  repeat' first | refine zx ?_ | fail
  refine zc (fun hc => ?_) fun hc => ?_
  ·have hb : zBQ l s = ⟨s.p, 4⟩ := by
    have hc := of_decide_eq_true hc
    have hc : ((l.map zBO).length : Int) <= (s.p : Int) := hc
    unfold zBQ
    rw [if_pos ‹s.e = 0›, if_pos (by omega)]
   rw [hb]
   repeat' first | refine zx ?_ | apply zn
   exact zAb ⟨.inr rfl, _, _, rfl, zzp, rfl⟩
  have hb : zBQ l s = ⟨s.p, 3⟩ := by
   have hc := of_decide_eq_false hc
   have hc : ¬ ((l.map zBO).length : Int) <= (s.p : Int) := hc
   unfold zBQ
   rw [if_pos ‹s.e = 0›, if_neg (by omega)]
  rw [hb]
  repeat' first | refine zx ?_ | apply zn
  exact zAb ⟨.inr rfl, _, _, rfl, zzp, rfl⟩
 have hb : zBQ l s = s := by
  have hc : ¬ s.e = 0 := of_decide_eq_false hc
  unfold zBQ
  rw [if_neg hc]
 rw [hb]
 repeat' first | refine zx ?_ | apply zn
 exact zAb ⟨.inr rfl, _, _, rfl, zzp, rfl⟩
theorem zVw (v w : Tok) : (eqD tab 9 72 (.agg (.es (zBO v))) (.agg (.es (zBO w)))).2 = decide (v = w) := by
 show (v.k == w.k && (zA1 (zA5 v.t) (zA5 w.t) && (v.i == w.i && (((v.b.toNat : Int) == (w.b.toNat : Int)) && true)))) = _
 rw [zAY, Bool.eq_iff_iff]
 obtain ⟨a, b, c, d⟩ := v
 obtain ⟨a', b', c', d'⟩ := w
 simp
 intro _ _ _
 constructor
 ·intro h; exact BitVec.eq_of_toNat_eq (by omega)
 ·intro h; rw [h]
theorem zDQ (l : List Tok) {i : Nat} (h : i < l.length) : (l.map zBO).getD i [] = zBO (l.getD i zBj) := by
 rw [List.getD_eq_getElem?_getD, List.getElem?_map, List.getElem?_eq_getElem h, List.getD_eq_getElem?_getD, List.getElem?_eq_getElem h]
 rfl
theorem zHq (l : List Tok) (s : Spot) (h : s.p < l.length) : ((eSp l s).getD (0 + 0) E.dflt).xs.getD ((eSp l s).getD (0 + 1) E.dflt).int.toNat [] = zBO (l.getD s.p zBj) := zDQ l h
theorem zAT (l : List Tok) (s : Spot) (x : Byt) (t : Tok) (r : List Tok) (hx : Tks x (t :: r)) : FnG Tryz.prog 34 ([(3, spE)]) [.agg (.es (eSp l s)), .one (.e (eT x))] (.v (.bool (zAc l s t))) := by
 refine zG 27 Tryz.func34 fun X hnt => ?_
 unfold Tks at hx
 have h0 : ((eSp l s).getD (0 + 2) E.dflt).int = s.e := rfl
 have h1 : ((eSp l s).getD (0 + 0) E.dflt).xs.length = l.length := List.length_map ..
 have h2 : ((eSp l s).getD (0 + 1) E.dflt).int = (s.p : Int) := rfl
 repeat' first | refine zx ?_ | fail
 refine zc (fun hc => ?_) fun hc => ?_
 ·simp only [zz] at hc
  (try simp only [h0, h1, h2] at hc)
  (try simp only [zz] at hc)
  have hs : zAc l s t = false := by
   cases h : zAc l s t with
   | false => rfl
   | true =>
    have h := zAw.1 h
    omega
  rw [hs]
  repeat' first | refine zx ?_ | apply zn
  exact zAb ⟨.inr rfl, _, _, rfl, zzp, rfl⟩
 simp only [zz] at hc
 (try simp only [h0, h1, h2] at hc)
 (try simp only [zz] at hc)
 have hlt : s.p < l.length := by omega
 have hn : (0 : Int) < ((List.map zBO (t :: r)).length : Int) := by simp
 have hn2 : (0 : Nat) < (List.map zBO (t :: r)).length := by simp
 repeat' apply zn
 refine zAK (T := tab) tOk hnt zAO (zA2 (T := tab) rfl ?_ (zCI rfl rfl rfl rfl rfl rfl rfl rfl rfl (hx) (zA2 (T := tab) rfl ?_ (.nil _)))) (by first | decide +kernel | kernel_rfl) ?_
 ·rw [zHq l s hlt]
  exact zza
 ·rw [zHq l s hlt]
  exact zza
 rw [zHq l s hlt]
 have hs : zAc l s t = decide (l.getD s.p zBj = t) := by
  unfold zAc
  rw [decide_eq_decide]
  exact ⟨fun h => h.2.2, fun h => ⟨hc.1, hlt, h⟩⟩
 rw [hs, <-zVw]
 exact zAb ⟨.inr rfl, _, _, rfl, zzp, rfl⟩
theorem zM4 (l : List Tok) (e : Int) {p : Nat} (h : p < 9223372036854775807) : [zFU l, E.v (.int .i64 (IntKind.i64.wrap (((p : Nat) : Int) + 1))), eI e] = eSp l ⟨p + 1, e⟩ := by
 rw [zAf (by omega) (by omega)]
 rfl
theorem zAQ {l : List Tok} {s : Spot} {t : Tok} {r : List Tok} : zAk l s (t :: r) = if zAc l s t = true then zAk l ⟨s.p + 1, s.e⟩ r else zBQ l s := by rw [zAk]
theorem zBr (l : List Tok) (hm : l.length <= maxLen) (s0 : Spot) (x : Byt) (ws : List Byt) (hF : Fld x ws) (hx : ∀ w ∈ ws, Tks w [wtk w]) (hw1 : ws.length <= 1000) : FnG Tryz.prog 23 ([(3, spE)]) [.agg (.es (eSp l s0)), .one (.e (eT x))] (.agg (.es (eSp l (zAk l s0 (ws.map wtk))))) := by
 refine zG 26 Tryz.func23 fun X hnt => ?_
 have lw : (ws.map fun t => [eT t]).length = ws.length := List.length_map ..
 have hm' : l.length <= 9223372036854775807 := Nat.le_trans hm (by decide)
 unfold Fld at hF
 repeat' first | refine zx ?_ | apply zn
 repeat' apply zn
 refine zAa (zzx hnt rfl ?_ (callV rfl rfl rfl rfl rfl rfl rfl hnt rfl (hF) (zzx hnt rfl ?_ (Lex.nil _)))) ?_
 ·exact zza
 ·exact zza
 repeat' apply zn
 refine zAx (σ := Nat) (fun i => St.of [(2, .one (.ptr 2 0 0)), (4, .one (.ptr 4 0 0)), (8, .one (.e (.sl (ws.map fun t => [eT t])))), (9, .one (.e (eI ((ws.map fun t => [eT t]).length : Int)))), (10, .one (.e (eI (i : Int)))), ((1000000 + 3), .one (.eptr spE))] [(2, ⟨0, .box (.es (eSp l ⟨s0.p + i, s0.e⟩)), 0⟩), (4, ⟨0, .box (.ds [.nil, .e (eI 0), .e (eI 0)]), 0⟩)]) (fun i => i <= ws.length /\ zAk l ⟨s0.p + i, s0.e⟩ ((ws.drop i).map wtk) = zAk l s0 (ws.map wtk)) (fun i => ws.length - i) (0) (zAh (ad := []) ⟨zzl, zzl, zzl, zzl, zzl, zzl, trivial⟩ zm) ⟨Nat.zero_le _, rfl⟩ ?_
 rintro i ⟨il, hJ⟩
 repeat' first | refine zx ?_ | fail
 refine zc (fun hc => ?_) fun hc => ?_
 ·simp only [zz] at hc
  (try simp only [lw] at hc)
  (try simp only [zz] at hc)
  have hlt : i < ws.length := by omega
  have hg : (ws.map fun t => [eT t]).getD i [] = [eT (ws.getD i [])] := by
   rw [List.getD_eq_getElem?_getD, List.getElem?_map, List.getElem?_eq_getElem hlt, List.getD_eq_getElem?_getD, List.getElem?_eq_getElem hlt]
   rfl
  have hw := hx (ws.getD i []) (by rw [List.getD_eq_getElem?_getD, List.getElem?_eq_getElem hlt]; exact List.getElem_mem hlt)
  have hdr : ws.drop i = ws.getD i [] :: ws.drop (i + 1) := by
   rw [List.drop_eq_getElem_cons hlt, List.getD_eq_getElem?_getD, List.getElem?_eq_getElem hlt]
   rfl
  rw [hdr, List.map_cons, zAQ] at hJ
  refine zy ?_ ?_
  ·rw [Int.toNat_natCast, hg, lw]
   exact zza
  rw [Int.toNat_natCast, hg]
  generalize ws.getD i [] = x at *
  have hs := zAT l ⟨s0.p + i, s0.e⟩ x (wtk x) [] hw
  repeat' apply zn
  refine zAa (zzx hnt rfl ?_ (callV rfl rfl rfl rfl rfl rfl rfl hnt rfl (hs) (zzx hnt rfl ?_ (Lex.nil _)))) ?_
  ·exact zza
  ·exact zza
  refine zc (fun hc => ?_) fun hc => ?_
  ·have hc : zAc l ⟨s0.p + i, s0.e⟩ (wtk x) = false := by
    have hc : (!zAc l ⟨s0.p + i, s0.e⟩ (wtk x)) = true := hc
    simpa using hc
   rw [if_neg (by rw [hc]; exact Bool.noConfusion)] at hJ
   have hb := zKq l ⟨s0.p + i, s0.e⟩
   refine zC hb ?_
   rw [<-hJ]
   exact zAb ⟨.inr rfl, _, _, rfl, zzp, rfl⟩
  have hc : zAc l ⟨s0.p + i, s0.e⟩ (wtk x) = true := by
   have hc : (!zAc l ⟨s0.p + i, s0.e⟩ (wtk x)) = false := hc
   simpa using hc
  rw [if_pos hc] at hJ
  have hp := (zAw.1 hc).2.1
  have hp : s0.p + i < l.length := hp
  repeat' first | refine zx ?_ | apply zn
  refine ⟨i + 1, ⟨hlt, hJ⟩, by omega, zAh (ad := []) ⟨zzl, zzl, zzl, zzl, zzl, zzl, trivial⟩ (zAg rfl rfl (zM4 l s0.e (p := s0.p + i) (by omega)) zm)⟩
 simp only [zz] at hc
 (try simp only [lw] at hc)
 (try simp only [zz] at hc)
 have hi : i = ws.length := by omega
 subst hi
 rw [List.drop_length] at hJ
 refine zAt ?_
 rw [<-hJ]
 repeat' first | refine zx ?_ | apply zn
 exact zAb ⟨.inr rfl, _, _, rfl, zzp, rfl⟩
def zAW (l : List Tok) : Prop := l.length <= maxLen /\ ∀ t ∈ l, t.t.length <= maxLen
theorem zAW.at {l : List Tok} (h : zAW l) {i : Nat} (hi : i < l.length) : (l.getD i zBj).t.length <= maxLen := by
 rw [List.getD_eq_getElem?_getD, List.getElem?_eq_getElem hi]
 exact h.2 _ (List.getElem_mem hi)
theorem zIx (l : List Tok) (ho : zAW l) (s : Spot) : FnG Tryz.prog 70 gK [.agg (.es (eSp l s))] (.one (.e (eI (zAU l s)))) := by
 refine zG 31 Tryz.func70 fun X hnt => ?_
 have h0 : ((eSp l s).getD (0 + 2) E.dflt).int = s.e := rfl
 have h1 : ((eSp l s).getD (0 + 0) E.dflt).xs.length = l.length := List.length_map ..
 have h2 : ((eSp l s).getD (0 + 1) E.dflt).int = (s.p : Int) := rfl
 have hk : s.p < l.length -> FnG Tryz.prog 92 gK [.agg (.es (List.take 4 (List.drop 0 (((eSp l s).getD (0 + 0) E.dflt).xs.getD ((eSp l s).getD (0 + 1) E.dflt).int.toNat []))))] (.one (.e (eI (tkF (l.getD s.p zBj))))) := fun h => by
  rw [zHq l s h]
  exact zId _ (ho.at h)
 repeat' first | refine zx ?_ | apply zn
 repeat' apply zn
 refine zAa (zzx hnt rfl ?_ (callVG rfl rfl rfl rfl rfl rfl hnt rfl (fun hq => ?_) rfl (fun hq => (hk (by have hq2 := hq; simp only [zz] at hq2; (try simp only [h0, h1, h2] at hq2); (try simp only [zz] at hq2); omega))) (zzx hnt rfl ?_ (Lex.nil _)))) ?_
 ·(dsimp only [zBh]; (repeat' first | exact trivial | assumption | exact Nat.le_of_ble_eq_true rfl | apply And.intro | exact zAm _ _ ‹_› | exact zAi _ _ ‹_› | (intro hh_; have hg_ := hh_; (try simp only [zAr, zAs, zBm, zBp, Bool.and_eq_true, ne_eq, decide_eq_true_eq, decide_eq_false_iff_not] at hg_)) | intro _ | exact rfl | omega))
  all_goals (rw [zHq l s (by omega)]; first | exact rfl | exact Nat.le_of_ble_eq_true rfl)
 ·exact zza
 ·exact zza
 refine zc (fun hc => ?_) fun hc => ?_
 ·simp only [zz] at hc
  (try simp only [h0, h1, h2] at hc)
  (try simp only [zz] at hc)
  have hs : zAU l s = 0 := by
   unfold zAU
   rw [if_pos (by omega)]
  rw [hs]
  repeat' first | refine zx ?_ | apply zn
  exact zAb ⟨.inr rfl, _, _, rfl, zzp, rfl⟩
 simp only [zz] at hc
 (try simp only [h0, h1, h2] at hc)
 (try simp only [zz] at hc)
 have hlt : s.p < l.length := by omega
 have hs : zAU l s = (l.getD s.p zBj).k := by
  unfold zAU
  rw [if_neg (by omega)]
 rw [hs]
 refine zy ?_ ?_
 ·rw [zHq l s hlt]
  exact zza
 rw [zHq l s hlt]
 exact zAb ⟨.inr rfl, _, _, rfl, zzp, rfl⟩
theorem zUf (l : List Tok) (ho : zAW l) (s : Spot) (hk1 : zAU l s = 1) : FnG Tryz.prog 29 gK [.agg (.es (eSp l s)), .one (.e (eI 1))] (.tup [(true, .es (zBO (l.getD s.p zBj))), (true, .es (eSp l ⟨s.p + 1, s.e⟩))]) := by
 refine zG 30 Tryz.func29 fun X hnt => ?_
 have h0 : ((eSp l s).getD (0 + 2) E.dflt).int = s.e := rfl
 have h1 : ((eSp l s).getD (0 + 0) E.dflt).xs.length = l.length := List.length_map ..
 have h2 : ((eSp l s).getD (0 + 1) E.dflt).int = (s.p : Int) := rfl
 have hm' : l.length <= 9223372036854775807 := Nat.le_trans ho.1 (by decide)
 obtain ⟨he, hlt, _, _⟩ := zCj (l := l) (s := s) (by rw [hk1]; decide)
 have hk := zIx l ho s
 rw [hk1] at hk
 repeat' first | refine zx ?_ | apply zn
 repeat' apply zn
 refine zAa (zzx hnt rfl ?_ (callVG rfl rfl rfl rfl rfl rfl hnt rfl (fun hq => ?_) rfl (fun hq => hk) (zzx hnt rfl ?_ (Lex.nil _)))) ?_
 ·exact zza
 ·exact zza
 ·exact zza
 refine zc (fun hc => ?_) fun hc => ?_
 ·simp only [zz] at hc
  (try simp only [h0, h1, h2] at hc)
  (try simp only [zz] at hc)
  exact absurd hc (by simp [he])
 refine zxa ?_
 refine zAq (s' := St.of [(1, .one (.e (eI 1))), (2, .one (.ptr 2 0 0)), (4, .one (.ptr 4 0 0)), (5, .one (.ptr 5 0 0))] [(2, ⟨0, .box (.es (eSp l ⟨s.p + 1, s.e⟩)), 0⟩), (4, ⟨0, .box (.es (zBO zBj)), 0⟩), (5, ⟨0, .box (.ds [.nil, .e (eI 0), .e (eI 0)]), 0⟩)]) (zAh (ad := []) ⟨zzl, zzl, zzl, zzl, trivial⟩ (zAg rfl rfl (zM4 l s.e (p := s.p) (by omega)) zm)) ?_
 have hi : (IntKind.i64.wrap (((eSp l ⟨s.p + 1, s.e⟩).getD (0 + 1) E.dflt).int - 1)) = (s.p : Int) := by
  show IntKind.i64.wrap (((s.p + 1 : Nat) : Int) - 1) = _
  rw [zAf (by omega) (by omega)]
  omega
 have hg : ((eSp l ⟨s.p + 1, s.e⟩).getD (0 + 0) E.dflt).xs.getD (IntKind.i64.wrap (((eSp l ⟨s.p + 1, s.e⟩).getD (0 + 1) E.dflt).int - 1)).toNat [] = zBO (l.getD s.p zBj) := by
  rw [hi]
  exact zDQ l hlt
 have h1' : ((eSp l ⟨s.p + 1, s.e⟩).getD (0 + 0) E.dflt).xs.length = l.length := List.length_map ..
 refine zy ?_ ?_
 ·rw [hg, hi, h1']
  exact zza
 rw [hg]
 exact zAb ⟨.inr rfl, _, _, rfl, zzp, rfl⟩
def msS (l : List Tok) (s : Spot) : List (Nat × Blk) := [(900000, ⟨0, .box (.es (eSp l s)), 0⟩)]
abbrev ptS : D := .one (.ptr 900000 0 0)
theorem zHP (l : List Tok) (s : Spot) (v : Val) (hlt : s.p < 9223372036854775807) : FnH Tryz.prog 93 [] (msS l s) [.agg (.es (zBw v)), ptS] (.tup [(true, .es (eEx (zEi v))), (true, .es (eSp l ⟨s.p + 1, s.e⟩))]) (msS l ⟨s.p + 1, s.e⟩) := by
 refine zFH 12 Tryz.func93 fun X hnt => ?_
 have h0 : ((eSp l s).getD (0 + 2) E.dflt).int = s.e := rfl
 have h1 : ((eSp l s).getD (0 + 0) E.dflt).xs.length = l.length := List.length_map ..
 have h2 : ((eSp l s).getD (0 + 1) E.dflt).int = (s.p : Int) := rfl
 have he : eEx (zEi v) = [eI 1, eI v.k, eI v.i, eQ v.b, eT v.t, eT [], .sl []] := by
  unfold zEi
  rw [zBZ]
  rfl
 rw [he]
 repeat' first | refine zx ?_ | apply zn
 exact zAb ⟨.inr rfl, _, _, _, rfl, zzp, rfl, fun X => zAh (ad := []) ⟨⟨⟨rfl, ⟨rfl, rfl, rfl, rfl, rfl, rfl, rfl, trivial⟩⟩, ⟨rfl, (zM4 l s.e hlt)⟩, trivial⟩, ⟨rfl, rfl, rfl, rfl, rfl⟩, trivial⟩ (zAg rfl rfl (zM4 l s.e hlt) trivial)⟩
theorem zQ6 (op : Nat) (h1 : 5 <= op) (h2 : op < 20) : FnD Tryz.prog 94 [.one (.e (eI (op : Int)))] (.one (.e (eI (lvF op - 1)))) := by
 refine zD 34 Tryz.func94 fun X hnt => ?_
 rcases (by omega : op = 5 \/ op = 6 \/ op = 7 \/ op = 8 \/ op = 9 \/ op = 10 \/ op = 11 \/ op = 12 \/ op = 13 \/ op = 14 \/ op = 15 \/ op = 16 \/ op = 17 \/ op = 18 \/ op = 19) with rfl | rfl | rfl | rfl | rfl | rfl | rfl | rfl | rfl | rfl | rfl | rfl | rfl | rfl | rfl
 all_goals repeat' (first | refine zDI ?_ | refine zEX ?_ | refine zGv ?_ | refine zGu 30 ?_ | refine zBX ?_ | refine zAt ?_ | refine reg (T := tab) tOk hnt rfl (by exact zzt) ?_ | refine zdt ?_ | refine zAj rfl (fun hc => ?_) (fun hc => absurd (show true = false from hc) Bool.noConfusion) | refine zAj rfl (fun hc => absurd (show false = true from hc) Bool.noConfusion) (fun hc => ?_))
 all_goals exact zAb ⟨.inr rfl, _, _, rfl, trivial, rfl⟩
def mwL : List Byt := [[], [], [], [], [], [43], [45], [42], [47], [61], [60, 62], [60], [60, 61], [62], [62, 61], [65, 78, 68], [79, 82], [], [], [124, 124], []]
set_option maxRecDepth 10000
set_option maxHeartbeats 2000000
theorem zXC : Fld [43] [[43]] := zzF
theorem zXD : Fld [42] [[42]] := zzF
theorem zXB : Fld [47] [[47]] := zzF
theorem zWl : Fld [61] [[61]] := zzF
theorem zWm : Fld [60, 62] [[60, 62]] := zzF
theorem zXA : Fld [60] [[60]] := zzF
theorem zWn : Fld [60, 61] [[60, 61]] := zzF
theorem zXz : Fld [62] [[62]] := zzF
theorem zWk : Fld [62, 61] [[62, 61]] := zzF
theorem zWj : Fld [65, 78, 68] [[65, 78, 68]] := zzF
theorem zXw : Fld [79, 82] [[79, 82]] := zzF
theorem zWi : Fld [124, 124] [[124, 124]] := zzF
theorem zWV : Fld [73, 83] [[73, 83]] := zzF
theorem zVr : Fld [76, 69, 78, 71, 84, 72] [[76, 69, 78, 71, 84, 72]] := zzF
theorem zVt : Fld [67, 79, 65, 76, 69, 83, 67, 69] [[67, 79, 65, 76, 69, 83, 67, 69]] := zzF
theorem tk1 {w : Byt} (h : Fld w [w]) (h0 : 0 < w.length) : Tks w [wtk w] := zCf _ _ h (by intro x hx; rw [List.mem_singleton.1 hx]; exact h0) (Nat.le_of_ble_eq_true rfl)
theorem tkM (k : Nat) (h1 : 5 <= k) (h2 : k < 20) (hne : mwL.getD k [] ≠ []) : Tks (mwL.getD k []) [mkS (k : Int)] := by
 rcases (by omega : k = 5 \/ k = 6 \/ k = 7 \/ k = 8 \/ k = 9 \/ k = 10 \/ k = 11 \/ k = 12 \/ k = 13 \/ k = 14 \/ k = 15 \/ k = 16 \/ k = 17 \/ k = 18 \/ k = 19) with rfl | rfl | rfl | rfl | rfl | rfl | rfl | rfl | rfl | rfl | rfl | rfl | rfl | rfl | rfl
 ·exact tk1 zXC (by decide)
 ·exact tk1 zFg (by decide)
 ·exact tk1 zXD (by decide)
 ·exact tk1 zXB (by decide)
 ·exact tk1 zWl (by decide)
 ·exact tk1 zWm (by decide)
 ·exact tk1 zXA (by decide)
 ·exact tk1 zWn (by decide)
 ·exact tk1 zXz (by decide)
 ·exact tk1 zWk (by decide)
 ·exact tk1 zWj (by decide)
 ·exact tk1 zXw (by decide)
 ·exact absurd rfl hne
 ·exact absurd rfl hne
 ·exact tk1 zWi (by decide)
def zEC (f : Int -> Bool) (lv : Nat) : Nat -> Nat -> Int
 | 0, _ => 0
 | n + 1, k => if (decide ((k : Int) ∈ zDJ lv) && f (k : Int)) = true then (k : Int) else zEC f lv n (k + 1)
theorem zOy (f : Int -> Bool) (lv : Nat) (hv : lv = 0 \/ lv = 1 \/ lv = 3 \/ lv = 4 \/ lv = 5 \/ lv = 6) : (((zDJ lv).find? f).getD 0) = zEC f lv 15 5 := by
 rcases hv with rfl | rfl | rfl | rfl | rfl | rfl
 ·cases h1 : f 16 <;> simp [zEC, zDJ, h1]
 ·cases h1 : f 15 <;> simp [zEC, zDJ, h1]
 ·cases h1 : f 9 <;> cases h2 : f 10 <;> cases h3 : f 11 <;> cases h4 : f 12 <;> cases h5 : f 13 <;> cases h6 : f 14 <;> simp [zEC, zDJ, h1, h2, h3, h4, h5, h6]
 ·cases h1 : f 19 <;> simp [zEC, zDJ, h1]
 ·cases h1 : f 5 <;> cases h2 : f 6 <;> simp [zEC, zDJ, h1, h2]
 ·cases h1 : f 7 <;> cases h2 : f 8 <;> simp [zEC, zDJ, h1, h2]
theorem zV3 (k : Nat) (h : k < 21) : mkE.getD k E.dflt = eT (mwL.getD k []) := by
 show (mwL.map eT).getD k E.dflt = _
 rw [List.getD_eq_getElem?_getD, List.getElem?_map, List.getElem?_eq_getElem h, List.getD_eq_getElem?_getD, List.getElem?_eq_getElem h]
 rfl
theorem zXn (k lv : Nat) (h1 : 5 <= k) (h2 : k < 20) (hv : lv = 0 \/ lv = 1 \/ lv = 3 \/ lv = 4 \/ lv = 5 \/ lv = 6) : ((k : Int) ∈ zDJ lv) ↔ (mwL.getD k [] ≠ [] /\ lvF k - 1 = (lv : Int)) := by
 rcases (by omega : k = 5 \/ k = 6 \/ k = 7 \/ k = 8 \/ k = 9 \/ k = 10 \/ k = 11 \/ k = 12 \/ k = 13 \/ k = 14 \/ k = 15 \/ k = 16 \/ k = 17 \/ k = 18 \/ k = 19) with rfl | rfl | rfl | rfl | rfl | rfl | rfl | rfl | rfl | rfl | rfl | rfl | rfl | rfl | rfl <;> rcases hv with rfl | rfl | rfl | rfl | rfl | rfl <;> decide
theorem zSw (l : List Tok) (s : Spot) (lv : Nat) (hv : lv = 0 \/ lv = 1 \/ lv = 3 \/ lv = 4 \/ lv = 5 \/ lv = 6) : FnG Tryz.prog 72 ([(4, mkE),(3, spE)]) [.agg (.es (eSp l s)), .one (.e (eI (lv : Int)))] (.one (.e (eI (zDc l s lv)))) := by
 refine zG 28 Tryz.func72 fun X hnt => ?_
 repeat' first | refine zx ?_ | apply zn
 repeat' apply zn
 refine zAx (σ := Nat) (fun k => St.of [(1, .one (.e (eI (lv : Int)))), (2, .one (.ptr 2 0 0)), (5, .one (.e (eI (k : Int)))), ((1000000 + 4), .one (.eptr mkE)), ((1000000 + 3), .one (.eptr spE))] [(2, ⟨0, .box (.es (eSp l s)), 0⟩)]) (fun k => 5 <= k /\ k <= 20 /\ zDc l s lv = zEC (fun op => zAc l s (mkS op)) lv (20 - k) k) (fun k => 20 - k) (5) (zAh (ad := []) ⟨zzl, zzl, zzl, zzl, zzl, trivial⟩ zm) ⟨by decide, by decide, zOy _ lv hv⟩ ?_
 rintro k ⟨k5, k20, hJ⟩
 repeat' first | refine zx ?_ | fail
 refine zc (fun hc => ?_) fun hc => ?_
 ·simp only [zz] at hc
  have hk : k < 20 := by omega
  obtain ⟨n, hn⟩ : ∃ n, 20 - k = n + 1 := ⟨19 - k, by omega⟩
  rw [hn, zEC] at hJ
  have hb := zQ6 k k5 hk
  have hst1 : (List.drop ((k : Int).toNat * 1) mkE).getD 0 E.dflt = eT (mwL.getD k []) := by
   rw [Int.toNat_natCast, Nat.mul_one, List.getD_eq_getElem?_getD, List.getElem?_drop, <-List.getD_eq_getElem?_getD]
   exact zV3 k (by omega)
  have hst : ((List.drop ((k : Int).toNat * 1) mkE).getD 0 E.dflt).str = zA5 (mwL.getD k []) := by
   rw [hst1]
   rfl
  have hL : 0 < (Cs.es (List.drop ((k : Int).toNat * 1) mkE)).len := by
   show 0 < (List.drop ((k : Int).toNat * 1) mkE).length
   rw [Int.toNat_natCast, Nat.mul_one, List.length_drop]
   show 0 < 21 - k
   omega
  have hA : D0.isA K.str ((Cs.es (List.drop ((k : Int).toNat * 1) mkE)).at 0) := by
   show D0.isA K.str (.e ((List.drop ((k : Int).toNat * 1) mkE).getD 0 E.dflt))
   rw [hst1]
   exact rfl
  have hs : mwL.getD k [] ≠ [] -> FnG Tryz.prog 34 [(3, spE)] [.agg (.es (eSp l s)), .one (.e (.v (.string ((List.drop ((k : Int).toNat * 1) mkE).getD 0 E.dflt).str)))] (.v (.bool (zAc l s (mkS (k : Int))))) := fun h => by
   rw [hst]
   exact zAT l s _ _ [] (tkM k k5 hk h)
  repeat' apply zn
  refine zAK (T := tab) tOk hnt zAO (zA2 (T := tab) rfl ?_ (zEF rfl rfl rfl rfl rfl rfl rfl rfl (fun hq => ?_) (fun hq => hb) (zA2 (T := tab) rfl ?_ (zI3 rfl rfl rfl rfl rfl rfl rfl rfl (fun hq => ?_) rfl (fun hq => (hs (by have hq2 := hq; simp only [zz] at hq2; intro h; exact absurd hq2.1 (by rw [hst, h]; show ¬ zA1 (zA5 []) (zA5 []) = false; rw [zAY]; decide)))) (zA2 (T := tab) rfl ?_ (.nil _)))))) (by first | decide +kernel | kernel_rfl) ?_
  ·(dsimp only [zBh]; (repeat' first | exact trivial | assumption | exact Nat.le_of_ble_eq_true rfl | apply And.intro | exact zAm _ _ ‹_› | exact zAi _ _ ‹_› | (intro hh_; have hg_ := hh_; (try simp only [zAr, zAs, zBm, zBp, Bool.and_eq_true, ne_eq, decide_eq_true_eq, decide_eq_false_iff_not] at hg_)) | intro _ | exact rfl | omega))
   all_goals trace_state
  ·(dsimp only [zBh]; (repeat' first | exact trivial | assumption | exact Nat.le_of_ble_eq_true rfl | apply And.intro | exact zAm _ _ ‹_› | exact zAi _ _ ‹_› | (intro hh_; have hg_ := hh_; (try simp only [zAr, zAs, zBm, zBp, Bool.and_eq_true, ne_eq, decide_eq_true_eq, decide_eq_false_iff_not] at hg_)) | intro _ | exact rfl | omega))
   all_goals trace_state
  ·(dsimp only [zBh]; (repeat' first | exact trivial | assumption | exact Nat.le_of_ble_eq_true rfl | apply And.intro | exact zAm _ _ ‹_› | exact zAi _ _ ‹_› | (intro hh_; have hg_ := hh_; (try simp only [zAr, zAs, zBm, zBp, Bool.and_eq_true, ne_eq, decide_eq_true_eq, decide_eq_false_iff_not] at hg_)) | intro _ | exact rfl | omega))
   all_goals trace_state
  ·(dsimp only [zBh]; (repeat' first | exact trivial | assumption | exact Nat.le_of_ble_eq_true rfl | apply And.intro | exact zAm _ _ ‹_› | exact zAi _ _ ‹_› | (intro hh_; have hg_ := hh_; (try simp only [zAr, zAs, zBm, zBp, Bool.and_eq_true, ne_eq, decide_eq_true_eq, decide_eq_false_iff_not] at hg_)) | intro _ | exact rfl | omega))
   all_goals trace_state
  ·(dsimp only [zBh]; (repeat' first | exact trivial | assumption | exact Nat.le_of_ble_eq_true rfl | apply And.intro | exact zAm _ _ ‹_› | exact zAi _ _ ‹_› | (intro hh_; have hg_ := hh_; (try simp only [zAr, zAs, zBm, zBp, Bool.and_eq_true, ne_eq, decide_eq_true_eq, decide_eq_false_iff_not] at hg_)) | intro _ | exact rfl | omega))
   all_goals trace_state
  have hN : zA1 (zA5 (mwL.getD k [])) (zA5 []) = decide (mwL.getD k [] = []) := zAY _ _
  have hin := zXn k lv k5 hk hv
  rw [hst]
  refine zc (fun hc => ?_) fun hc => ?_
  ·have hc : (bif (bif !zA1 (zA5 (mwL.getD k [])) (zA5 []) then decide (lvF (k : Int) - 1 = (lv : Int)) else false) then zAc l s (mkS (k : Int)) else false) = true := hc
   rw [hN] at hc
   simp only [zAs, zBm, decide_eq_true_eq, decide_eq_false_iff_not] at hc
   rw [if_pos (by rw [Bool.and_eq_true, decide_eq_true_eq]; exact ⟨hin.2 hc.1, hc.2⟩)] at hJ
   rw [hJ]
   repeat' first | refine zx ?_ | apply zn
   exact zAb ⟨.inr rfl, _, _, rfl, zzp, rfl⟩
  have hc : (bif (bif !zA1 (zA5 (mwL.getD k [])) (zA5 []) then decide (lvF (k : Int) - 1 = (lv : Int)) else false) then zAc l s (mkS (k : Int)) else false) = false := hc
  rw [hN] at hc
  rw [if_neg (fun h => by
   rw [Bool.and_eq_true, decide_eq_true_eq] at h
   have h1 := hin.1 h.1
   rw [decide_eq_false h1.1, decide_eq_true h1.2, h.2] at hc
   exact Bool.noConfusion hc)] at hJ
  repeat' first | refine zx ?_ | apply zn
  refine ⟨k + 1, ⟨by omega, by omega, by rw [show 20 - (k + 1) = n by omega]; exact hJ⟩, by omega, zAh (ad := []) ⟨zzl, zzl, zzl, zzl, zzl, trivial⟩ zm⟩
 simp only [zz] at hc
 have hk : k = 20 := by omega
 subst hk
 refine zAt ?_
 have hz : zDc l s lv = 0 := hJ
 rw [hz]
 repeat' first | refine zx ?_ | apply zn
 exact zAb ⟨.inr rfl, _, _, rfl, zzp, rfl⟩
end Go.Proofs.YtcdifgacoleckaaGreatDoor
namespace Go.Proofs.YtcdifgacoleckaaGreatDoor.Ab
open Go Go.RowKit
def zTu (P : Program) (f : Nat) (ms : List (Nat × Blk)) (args : List D) (u u' : FrameMode) (ms' : List (Nat × Blk)) : Prop :=
 zRc P f /\ ∀ (w : World) (vs : Array Value) (I : Nat -> Nat -> Prop) (μ : Nat -> Option Nat), RM (XH w I ⟨zAl ms, μ⟩) ⟨zAl ms, μ⟩ w ->
  zMQ ⟨zAl ms, μ⟩ (CW (XH w I ⟨zAl ms, μ⟩) ⟨zAl ms, μ⟩ w) w args vs.toList ->
  CallsD P f vs u w fun e v w' => (∃ x, e = .returned x) /\ v = u' /\ ∃ μ' : Nat -> Option Nat, RM (XH w I ⟨zAl ms, μ⟩) ⟨zAl ms', μ'⟩ w' /\ (∀ id b, zAl ms id = some b -> b.isBox = true -> μ' id = μ id)
def zFs : FrameMode -> Value × FrameMode
 | .panicking ({ v, recovered := false, goexit := false } :: older) => (v, .panicking ({ v, recovered := true } :: older))
 | u => (.nilIface, u)
theorem zVK {c : Frame} {cs : List Frame} {u : FrameMode} (hu : c.mode = u) : ∃ cs', (match recoverD (c :: cs) with | some (v, cs') => (v, cs') | none => (.nilIface, c :: cs)) = ((zFs u).1, cs') /\ cs' = { c with mode := (zFs u).2 } :: cs := by
 obtain ⟨fn, tm, td, df, mode, kd, ro⟩ := c
 subst hu
 refine ⟨_, ?_, rfl⟩
 cases mode with
 | panicking l =>
  cases l with
  | nil => rfl
  | cons p r =>
   obtain ⟨v, rc, ge⟩ := p
   cases rc <;> cases ge <;> rfl
 | _ => rfl
def zWA (ms ms' : List (Nat × Blk)) (e : Exit) (s : St) : Prop :=
 (e = .normal \/ e = .ret) /\ ∀ X, Le X ⟨fun t => bif Nat.ble 900000 t then s.tm t else .any, s.mem⟩ (St.of (zFu ms) ms')
section
variable {P : Program} {T : Nat -> Option TI} {X : Ctx}
theorem zEo {f : Nat} {fn : Func} {c : Code} {i t t2 : Nat} {o o2 : Oper} (hf : P.funcs[f]? = some fn) (hb : fn.body = some (.seq (.region i #[o, o2] false) c)) (ho : o.op = .call ⟨.builtin .recover, #[], #[]⟩) (hg : o.guard = none) (hd : o.dst = some t) (ht : Nat.blt t fn.ntmps = true) (ho2 : o2.op = .assign (.tmp t)) (hg2 : o2.guard = none) (hd2 : o2.dst = some t2) (ht2 : Nat.blt t2 fn.ntmps = true) (hres : fn.results = #[])
  (hname : (fn.name == "runtime.NumGoroutine") = false) {args : List D} {ms ms' : List (Nat × Blk)} {u : FrameMode} (hn : args.length <= fn.ntmps)
  (hin : zOH ms = true) (hout : zE4 ms' ms = true) (hv : (zFs u).1.oneCell' = true) (h : ∀ X : Ctx, X.nt = fn.ntmps -> Tr P X c ⟨upd (upd (St.startH [] ms args).tm t (.one (.e (.v (zFs u).1)))) t2 (.one (.e (.v (zFs u).1))), zAl ms⟩ (zWA ms ms')) (hbig : Nat.ble fn.ntmps 900000 = true := by rfl) (hlt : Nat.ble 1048576 f = false := by rfl) : zTu P f ms args u (zFs u).2 ms' := by
 refine ⟨⟨fn, _, hf, hb, Bool.or_eq_false_iff.2 ⟨hname, hlt⟩⟩, fun w vs I μ hM0 hargs => ?_⟩
 have hlen : args.length = vs.size := by simpa using hargs.1
 let X : Ctx := ⟨w, I, fn.ntmps, Nat.le_of_ble_eq_true hbig, (XH w I ⟨zAl ms, μ⟩).ex, fun t => (μ t).getD 0, []⟩
 have hbig' := Nat.le_of_ble_eq_true hbig
 have htl : t < fn.ntmps := Nat.blt_eq.mp ht
 have hsl : ∀ t, 900000 <= t -> t < 1000000 -> ∀ tmps : Array Value, zAL X.xg tmps t = .pointer (some ⟨(μ t).getD 0, 0, none⟩) := fun t h1 h2 tmps => by
  unfold zAL
  have e1 : Nat.ble 1000000 t = false := by
   cases hb : Nat.ble 1000000 t with
   | false => rfl
   | true => have := Nat.le_of_ble_eq_true hb; omega
  rw [e1, Nat.ble_eq_true_of_le h1]
  rfl
 have hbox : ∀ t b, zAl ms t = some b -> b.isBox = true -> ∃ g, μ t = some g := fun t b h1 h2 => by
  obtain ⟨_, _, k3⟩ := zDC hin h1
  have h3 := hM0.blk t b h1
  cases hg : μ t with
  | some g => exact ⟨g, rfl⟩
  | none =>
   simp only [zAP, hg] at h3
   exact absurd h3.1 (zGI k3 h2).2
 have hsz0 : (vs ++ Array.replicate (fn.ntmps - vs.size) undef).size = X.nt := by show _ = fn.ntmps; simp; omega
 have hr0 : ∀ t, zAy ⟨zAl ms, μ⟩ (CW X ⟨zAl ms, μ⟩ w) w ((St.startH [] ms args).tm t) (zAL X.xg (vs ++ Array.replicate (fn.ntmps - vs.size) undef) t) := fun t => by
  show zAy _ _ w (bif Nat.ble 1000000 t then zPO [] (t - 1000000) else bif Nat.ble 900000 t then zRU ms t else zDp args t) _
  cases hbt : Nat.ble 1000000 t with
  | true => exact trivial
  | false =>
  rw [cond_false]
  have hlt : t < 1000000 := by
   rcases Nat.lt_or_ge t 1000000 with h | h
   ·exact h
   ·rw [Nat.ble_eq_true_of_le h] at hbt; cases hbt
  cases hb9 : Nat.ble 900000 t with
  | true =>
   have hle := Nat.le_of_ble_eq_true hb9
   rw [cond_true, hsl t hle hlt]
   rcases zEk (ms := ms) (t := t) with h1 | ⟨b, h1, h2, h3⟩
   ·rw [h1]; trivial
   ·rw [h3]
    obtain ⟨g, hg⟩ := hbox t b h1 h2
    exact ⟨rfl, b, h1, Nat.zero_le _, fun _ => ⟨g, hg, by rw [hg]; rfl⟩⟩
  | false =>
  rw [cond_false, zCl]
  cases hd : args[t]? with
  | none => trivial
  | some d =>
   have ht : t < vs.size := by rw [<-hlen]; exact (List.getElem?_eq_some_iff.1 hd).1
   have hv : zAL X.xg (vs ++ Array.replicate (fn.ntmps - vs.size) undef) t = vs[t] := by
    rw [zCq (by omega), Array.getD_eq_getD_getElem?, Array.getElem?_append_left ht, Array.getElem?_eq_getElem ht]
    rfl
   simp only [Option.getD_some]
   rw [hv]
   exact hargs.2 t d vs[t] hd (by simp [ht])
 refine callsD_of_wpS hf hb fun c₀ cs hu => wpS_seq (wpS_region ?_)
 obtain ⟨cs', e1, e2⟩ := zVK (cs := cs) hu
 have hR : R X ⟨upd (St.startH [] ms args).tm t (.one (.e (.v (zFs u).1))), zAl ms⟩ (({ tmps := vs ++ Array.replicate (fn.ntmps - vs.size) undef, defers := [] } : Act).put o.dst (zFs u).1) w := by
  refine ⟨μ, ⟨hM0.bel, hM0.blk⟩, by rw [hd]; simpa [Act.put] using hsz0, by rw [hd]; rfl, ?_⟩
  have hp := zBF (X := X) (s := ⟨(St.startH [] ms args).tm, zAl ms⟩) (dst := o.dst) (d := .one (.e (.v (zFs u).1))) (v := (zFs u).1) (a := { tmps := vs ++ Array.replicate (fn.ntmps - vs.size) undef, defers := [] }) hr0 Kept.rfl' (RepE.v _ hv) hsz0 (by rw [hd]; exact ht) []
  intro t'
  have h1 := hp t'
  rw [hd] at h1 ⊢
  exact h1
 have hfin : ∀ a w', R X ⟨upd (upd (St.startH [] ms args).tm t (.one (.e (.v (zFs u).1)))) t2 (.one (.e (.v (zFs u).1))), zAl ms⟩ a w' -> w' = w -> c.wpS P (bodyPostS P fn c₀ cs fun e v w' => (∃ x, e = .returned x) /\ v = (zFs u).2 /\ ∃ μ' : Nat -> Option Nat, RM (XH w I ⟨zAl ms, μ⟩) ⟨zAl ms', μ'⟩ w' /\ (∀ id b, zAl ms id = some b -> b.isBox = true -> μ' id = μ id)) a cs' w' := by
  intro a w0 hR0 hw0
  refine wpS_of_wp (wp_mono (h X rfl a w0 hR0) fun e a w' ⟨s', hE, hR⟩ => ?_)
  obtain ⟨hend, hle⟩ := hE
  obtain ⟨μ1, hM, hsz, hdf, hr⟩ := hR
  obtain ⟨μ', hM', _, _, hr'⟩ := hle ⟨w, I, 1, by decide, (XH w I ⟨zAl ms, μ⟩).ex, X.xg, []⟩ { a with tmps := #[undef] } w' ⟨μ1, ⟨hM.bel, hM.blk⟩, rfl, hdf, fun t => by
   show zAy _ _ _ (bif Nat.ble 900000 t then s'.tm t else .any) _
   cases h9 : Nat.ble 900000 t with
   | false => trivial
   | true =>
    have e : zAL X.xg #[undef] t = zAL X.xg a.tmps t := by
     unfold zAL
     cases Nat.ble 1000000 t with
     | true => rfl
     | false => rw [h9]; rfl
    rw [cond_true]
    show zAy _ _ _ _ (zAL X.xg #[undef] t)
    rw [e]
    exact hr t⟩
  have hpost : bodyPostS P fn c₀ cs (fun e v w' => (∃ x, e = .returned x) /\ v = (zFs u).2 /\ ∃ μ' : Nat -> Option Nat, RM (XH w I ⟨zAl ms, μ⟩) ⟨zAl ms', μ'⟩ w' /\ (∀ id b, zAl ms id = some b -> b.isBox = true -> μ' id = μ id)) .normal a cs' w' := by
   refine ⟨hdf, _, e2, .tuple #[], ?_, ⟨_, rfl⟩, rfl, μ', ⟨hM'.bel, hM'.blk⟩, fun id b h1 h2 => ?_⟩
   ·unfold results
    rw [hres]
    simp
   ·obtain ⟨q1, q2, q3⟩ := zDC hin h1
    obtain ⟨g, hg⟩ := hbox id b h1 h2
    obtain ⟨b', e1, e2, e3⟩ := zE3 hout h1 h2
    have h3 := hr' id
    rw [show (St.of (zFu ms) ms').tm id = zDO (zFu ms) id from rfl, zGf h1 h2] at h3
    obtain ⟨_, blk, f1, f2, f3⟩ := h3
    have f1 : zAl ms' id = some blk := f1
    rw [e1] at f1
    cases f1
    obtain ⟨g', g1, g2⟩ := f3 e2.symm
    have g2 : zAL X.xg #[undef] id = .pointer (some ⟨g', 0, none⟩) := g2
    rw [hsl id q1 q2, hg] at g2
    simp only [Value.pointer.injEq, Option.some.injEq, Addr.mk.injEq, Option.getD_some, and_true] at g2
    rw [hg, g2]
    exact g1
  rcases hend with rfl | rfl
  ·exact hpost
  ·exact hpost
 have hrun : (execOp ({ tmps := vs ++ Array.replicate (fn.ntmps - vs.size) undef, defers := [] } : Act).eval o).run P w = .ok .recover w := by
  simp [execOp, ho, resolve, invoke, builtin]
 have hR2 : ∀ a, R X ⟨upd (St.startH [] ms args).tm t (.one (.e (.v (zFs u).1))), zAl ms⟩ a w -> a.eval (.tmp t) = (zFs u).1 -> R X ⟨upd (upd (St.startH [] ms args).tm t (.one (.e (.v (zFs u).1)))) t2 (.one (.e (.v (zFs u).1))), zAl ms⟩ (a.put o2.dst (zFs u).1) w := by
  rintro a ⟨μ1, hM, hsz, hdf, hr⟩ _
  refine ⟨μ1, hM, by rw [hd2]; simpa [Act.put] using hsz, by rw [hd2]; exact hdf, ?_⟩
  have hp := zBF (X := X) (dst := o2.dst) (d := .one (.e (.v (zFs u).1))) (v := (zFs u).1) hr Kept.rfl' (RepE.v _ hv) hsz (by rw [hd2]; exact ht2) []
  intro t'
  have h1 := hp t'
  rw [hd2] at h1 ⊢
  exact h1
 have hev : ∀ v : Value, (({ tmps := vs ++ Array.replicate (fn.ntmps - vs.size) undef, defers := [] } : Act).put o.dst v).eval (.tmp t) = v := fun v => by
  rw [hd]
  have hsz0 : t < (vs ++ Array.replicate (fn.ntmps - vs.size) undef).size := by rw [hsz0]; exact htl
  simp only [Act.put, Act.eval]
  rw [Array.getD_eq_getD_getElem?, Array.getElem?_setIfInBounds_self_of_lt hsz0]
  rfl
 have hrun2 : ∀ a : Act, (execOp a.eval o2).run P w = .ok (.value (a.eval (.tmp t))) w := fun a => by
  simp [execOp, ho2]
 have hgo : ∀ a cs, R X ⟨upd (St.startH [] ms args).tm t (.one (.e (.v (zFs u).1))), zAl ms⟩ a w -> a.eval (.tmp t) = (zFs u).1 -> cs = cs' -> ∀ Q : Exit -> Act -> List Frame -> World -> Prop, (∀ a, R X ⟨upd (upd (St.startH [] ms args).tm t (.one (.e (.v (zFs u).1)))) t2 (.one (.e (.v (zFs u).1))), zAl ms⟩ a w -> Q .normal a cs' w) -> wpOpsS P #[o, o2] Q [1] a cs w := by
  intro a cs hRa he hcs Q hQ
  subst hcs
  unfold wpOpsS
  rw [show (#[o, o2] : Array Oper)[1]? = some o2 from rfl]
  simp only
  rw [if_pos (show Region.wanted o2 _ = true by unfold Region.wanted; rw [hg2]), hrun2, he]
  simp only [Oper.upon]
  unfold wpOpsS
  exact hQ _ (hR2 a hRa he)
 show wpOpsS P #[o, o2] _ [0, 1] _ _ _
 unfold wpOpsS
 rw [show (#[o, o2] : Array Oper)[0]? = some o from rfl]
 simp only
 rw [if_pos (show Region.wanted o _ = true by unfold Region.wanted; rw [hg]), hrun]
 simp only
 split
 ·rename_i v cs1 hrec
  rw [hrec] at e1
  simp only [Prod.mk.injEq] at e1
  obtain ⟨rfl, rfl⟩ := e1
  exact hgo _ _ hR (hev _) rfl _ fun a hRa => hfin a w hRa rfl
 ·rename_i hrec
  rw [hrec] at e1
  simp only [Prod.mk.injEq] at e1
  obtain ⟨e1, rfl⟩ := e1
  rw [e1]
  exact hgo _ _ hR (hev _) rfl _ fun a hRa => hfin a w hRa rfl
theorem zOi (hT : TOk P T) {w : World} {I : Nat -> Nat -> Prop} {fn : Func} {X : Ctx} (hW : X.W = w) (hI : X.I = I) (hex : X.ex = fun _ => False) {s : St} {a : Act} {w' : World} (hR : R X s a w') {φ : Prop} {r : D} (hres : zTj T s fn.results.toList = some (φ, r)) (hφ : φ) :
  ∃ v, (results fn a.tmps).run P w' = .ok v w' /\ Below w.heap.size w w' /\ zAy p0 (CI' w w' I) w' r v := by
 obtain ⟨XW, XI, nt, big, ex, xg, df⟩ := X
 have hW : XW = w := hW
 have hI : XI = I := hI
 have hex : ex = fun _ => False := hex
 subst hW hI hex
 obtain ⟨μ, hM, hsz, hdf, hr⟩ := hR
 unfold zTj at hres
 split at hres
 ·rename_i φ' ds h1
  split at hres
  ·rename_i xs us h2
   cases hall : xs.all zKw with
   | false => simp [hall] at hres
   | true =>
    simp only [hall, cond_true, Option.some.injEq, Prod.mk.injEq] at hres
    obtain ⟨rfl, rfl⟩ := hres
    cases hro : fn.results.toList.all zKS with
    | false => rw [hro] at h1; cases h1
    | true =>
    rw [hro] at h1
    obtain ⟨us', k1, k2, k3⟩ := zEc hT hM hr (fun x hx => List.all_eq_true.1 hro x hx) h1 hφ
    obtain ⟨r1, r2, r3, r4⟩ := RM.pubs us s.mem hM (zCM h2)
    have hd := zCc (vs := us') r1 ⟨k2, fun i d v hd hv => (k3 i d v hd hv).kept r2⟩ h2 r3
    have hj := zGR hd hall
    have hrun : (results fn a.tmps).run P w' = .ok (if h : us'.toArray.size = 1 then us'.toArray[0] else .tuple us'.toArray) w' := by
     have he : results fn a.tmps = (do let vs <-fn.results.mapM (zSt a.tmps); pure (if h : vs.size = 1 then vs[0] else .tuple vs) : Sem Value) := rfl
     rw [he, Sem.run_bind, Array.mapM_eq_mapM_toList, Sem.run_map, k1]
     rfl
    exact ⟨_, hrun, r1.bel.toBelow (fun _ h => h), hj.p0_own fun b o u hc => ⟨hc.1, (Nat.lt_or_ge b XW.heap.size).imp (fun hlt => hc.2.1 fun h => h.elim (fun h => Nat.not_lt.2 h hlt) id) id⟩⟩
  ·cases hres
 ·cases hres
def zWK (caps : List (Nat × Nat × Nat)) (tm : Nat -> D) : Nat -> D := fun t => bif Nat.ble 1000000 t then tm t else bif Nat.ble 900000 t then (match caps[t - 900000]? with | some c => .one (.ptr c.1 c.2.1 c.2.2) | none => .any) else tm t
def zVp (tm : Nat -> D) : Nat -> Nat -> List D
 | 0, _ => []
 | n + 1, j => tm j :: zVp tm n (j + 1)
theorem zL4 (tm : Nat -> D) : ∀ n j, (zVp tm n j).length = n
 | 0, _ => rfl
 | n + 1, j => congrArg (· + 1) (zL4 tm n (j + 1))
theorem zL5 {tm : Nat -> D} : ∀ {n j i : Nat} {d : D}, (zVp tm n j)[i]? = some d -> d = tm (j + i) /\ i < n
 | 0, _, _, _, h => nomatch h
 | n + 1, j, 0, d, h => by cases h; exact ⟨rfl, Nat.succ_pos _⟩
 | n + 1, j, i + 1, d, h => by
  have := zL5 (n := n) (j := j + 1) (i := i) h
  exact ⟨by rw [this.1]; congr 1; omega, Nat.succ_lt_succ this.2⟩
def zRI : Exit -> FrameMode
 | .panic ch => .panicking ch
 | _ => .returning
def zTf (P : Program) (T : Nat -> Option TI) (f n : Nat) (rs : List ResultVar) (r : D) (e : Exit) (s : St) : Prop :=
 (e = .normal \/ e = .ret \/ ∃ ch, e = .panic ch) /\ ∃ u' ms ms' az L K, zTu P f ms az (zRI e) u' ms' /\ settle u' = .returning /\ ArgsH s.mem (zBN s.mem (L ++ K)) (fun c => isS (zAl ms c)) (zVp s.tm n 900000) az [] ∧
  zCT ms ms' L K [] = true /\ zHj s.mem ms (zBN s.mem (L ++ K)) (L ++ K) /\ zJe ms ms' L /\ ∃ φ r', zTj T ⟨s.tm, zDo s.mem ms' L K []⟩ rs = some (φ, r') /\ φ /\ r' = r
def zRf (P : Program) (T : Nat -> Option TI) (X : Ctx) (ops : Array Oper) (rest : Code) (rs : List ResultVar) (r : D) (s : St) : Prop :=
 ∃ k s1 o fo ts f caps, Lex P X ops (ops.toList.take k) s s1 /\ ops.toList.drop k = [o] /\ o.op = .defer ⟨.value fo, #[], ts⟩ /\ o.guard = none /\ o.dst = none /\ (s1.ev fo).strip = .one (.clo f caps) /\ zAR s1 [fo] = [] /\ Nat.ble 1048576 f = false ∧
  zC4 s1.mem caps = true /\ caps.all (fun c => Nat.beq c.2.2 0) = true /\ Nat.ble caps.length 90000 = true ∧
  ∀ X' : Ctx, X'.nt = X.nt -> Tr P X' rest ⟨zWK caps s1.tm, s1.mem⟩ (zTf P T f caps.length rs r)
def zKG (T : Nat -> Option TI) (rs : List ResultVar) (r : D) (K : St -> Prop) : Exit -> St -> Prop
 | .normal, s => K s
 | e, s => Ends T rs r e s
theorem zNm (hT : TOk P T) {w0 : World} {I : Nat -> Nat -> Prop} {fn : Func} {f : Nat} {caps : List (Nat × Nat × Nat)} {vs : List Value} {X : Ctx} (hW : X.W = w0) (hI : X.I = I) (hex : X.ex = fun _ => False) (hdf0 : X.df = [⟨.fn (.func f) vs.toArray, #[]⟩]) (hn : vs.length = caps.length) (hc9 : Nat.ble caps.length 90000 = true)
  (hvs : ∀ (i : Nat) (v : Value), vs[i]? = some v -> v = .pointer (some ⟨X.xg (900000 + i), 0, none⟩)) {r : D} {e : Exit} {s : St} {a : Act} {w : World} (hR : R X s a w) (hE : zTf P T f caps.length fn.results.toList r e s) :
  bodyPostD P fn (fun e w'' => ∃ v, e = .returned v /\ Below w0.heap.size w0 w'' /\ zAy p0 (CI' w0 w'' I) w'' r v) e a w := by
 obtain ⟨hend, u', ms, ms', az, L, K, hfn, hset, has, hids, hin, hsh, φ, r', hres, hφ, rfl⟩ := hE
 obtain ⟨μ, hM, hsz, hdf, hr⟩ := hR
 rw [hdf0] at hdf
 obtain ⟨hF, hCin, hRc, hInv⟩ := RM.lend hM hids hin
 have hle := Nat.le_of_ble_eq_true hc9
 have hrep := zCZ (vs := vs) hM hCin hInv has ⟨by rw [zL4, hn], fun i d v hd hv => by
  obtain ⟨rfl, hi⟩ := zL5 hd
  have h1 := hr (900000 + i)
  have e2 : zAL X.xg a.tmps (900000 + i) = .pointer (some ⟨X.xg (900000 + i), 0, none⟩) := by
   unfold zAL
   have e1 : Nat.ble 1000000 (900000 + i) = false := by
    cases hb : Nat.ble 1000000 (900000 + i) with
    | false => rfl
    | true => have := Nat.le_of_ble_eq_true hb; omega
   rw [e1, Nat.ble_eq_true_of_le (Nat.le_add_right ..)]
   rfl
  rw [e2] at h1
  rw [hvs i v hv]
  exact h1⟩ (fun u hu => nomatch hu)
 have key : Leaves P fn a.tmps (fun e w'' => ∃ v, e = .returned v /\ Below w0.heap.size w0 w'' /\ zAy p0 (CI' w0 w'' I) w'' r' v) a.defers (zRI e) w := by
  rw [hdf]
  obtain ⟨⟨fn1, c1, k1, k2, k34⟩, hfn⟩ := hfn
  obtain ⟨k3, k4⟩ := Bool.or_eq_false_iff.1 k34
  refine leaves_cons (f := f) (args := vs.toArray) (by rcases hend with rfl | rfl | ⟨ch, rfl⟩ <;> exact FrameMode.noConfusion) ?_ ?_
  ·have hb : fn1.body.isNone = false := by rw [k2]; rfl
   have hne : ¬ (fn1.name = "runtime.NumGoroutine") := by simpa using k3
   simp [invoke, callFunc, k1, hne, k2]
  ·refine (hfn w vs.toArray _ _ hRc (by simpa using hrep)).mono ?_
   rintro e' v' w' ⟨⟨x, rfl⟩, rfl, μf, hMf, hkeep⟩
   obtain ⟨μ', t1, t2, t3, t4⟩ := RM.back hM hids hin hsh rfl rfl hMf hkeep
   show Leaves P fn a.tmps _ [] (settle v') w'
   rw [hset]
   obtain ⟨v, g1, g2, g3⟩ := zOi (fn := fn) hT hW hI hex (s := ⟨s.tm, zDo s.mem ms' L K []⟩) (a := a) (w' := w') ⟨μ', t1, hsz, by rw [hdf0]; exact hdf, fun t => (hr t).kept t2⟩ hres hφ
   exact ⟨v, g1, v, rfl, g2, g3⟩
 rcases hend with rfl | rfl | ⟨ch, rfl⟩
 ·exact key
 ·exact key
 ·exact key
theorem zPW {X : Ctx} (hdf0 : X.df = []) {id : Nat} {ops : Array Oper} {rest : Code} {rs : List ResultVar} {r : D} {s : St} (h : zRf P T X ops rest rs r s) {W : Exit -> Act -> World -> Prop}
  (hW : ∀ (X' : Ctx) (f : Nat) (caps : List (Nat × Nat × Nat)) (vs : List Value) (s' : St) (e : Exit) (a : Act) (w : World), X'.W = X.W -> X'.I = X.I -> X'.ex = X.ex -> X'.df = [⟨.fn (.func f) vs.toArray, #[]⟩] -> vs.length = caps.length -> Nat.ble caps.length 90000 = true -> (∀ (i : Nat) (v : Value), vs[i]? = some v -> v = .pointer (some ⟨X'.xg (900000 + i), 0, none⟩)) -> R X' s' a w -> zTf P T f caps.length rs r e s' -> W e a w) :
  ∀ a w, R X s a w -> (Code.seq (.region id ops false) rest).wp P W a w := by
 obtain ⟨k, s1, o, fo, ts, f, caps, hl, hd, hop, hg, hdst, hfo, hnd, hf, hcap, hoff, hc9, hrest⟩ := h
 intro a w hR
 refine wp_seq (wp_region_list ?_)
 have e : ops.toList = ops.toList.take k ++ [o] := by rw [<-hd, List.take_append_drop]
 have key : ∀ (l : List Oper) (s t : St), Lex P X ops l s t -> ∀ Q : Exit -> Act -> World -> Prop, (∀ a w, R X t a w -> wpList P ops Q [o] a w) -> ∀ a w, R X s a w -> wpList P ops Q (l ++ [o]) a w := by
  intro l s t q
  induction q with
  | nil s => exact fun Q h a w hR => h a w hR
  | cons h1 _ ih =>
   intro Q hQ a w hR
   have h2 := h1 Q a w hR
   rw [List.cons_append]
   unfold wpList
   split
   ·rename_i hw
    rw [if_pos hw] at h2
    exact .inl (Oper.wp_mono (fun a w hr => ih Q hQ a w hr) h2)
   ·rename_i hw
    rw [if_neg hw] at h2
    exact ih Q hQ _ _ h2
 rw [e]
 refine key _ s s1 hl _ (fun a w hR => ?_) a w hR
 obtain ⟨μ, hM, hsz, hdf, hr⟩ := hR
 have hfr := zAA (zBn hr fo) (zAC (fun p hp => by rw [hnd] at hp; cases hp) fo (List.mem_cons_self ..))
 rw [hfo] at hfr
 obtain ⟨vs, hfv, hl0, hcp⟩ := hfr
 rw [zCG hf] at hfv
 have hrun : (execOp a.eval o).run P w = .ok (.defer ⟨.fn (.func f) vs.toArray, #[]⟩) w := by
  simp [execOp, hop, resolve, hfv, Deferred.ofValue]
 unfold wpList
 rw [if_pos (show Region.wanted o _ = true by unfold Region.wanted; rw [hg])]
 refine .inl ?_
 unfold Oper.wp
 rw [hrun, Oper.upon_defer, hdst]
 unfold wpList
 let xg : Nat -> Nat := fun t => match vs[t - 900000]? with
  | some (.pointer (some ad)) => ad.block
  | _ => 0
 let X' : Ctx := ⟨X.W, X.I, X.nt, X.big, X.ex, xg, [⟨.fn (.func f) vs.toArray, #[]⟩]⟩
 have hptr : ∀ (i : Nat) (u : Value), vs[i]? = some u -> u = .pointer (some ⟨xg (900000 + i), 0, none⟩) := by
  intro i u hu
  have hi : i < caps.length := by rw [hl0]; exact (List.getElem?_eq_some_iff.1 hu).1
  have hc : caps[i]? = some caps[i] := List.getElem?_eq_getElem hi
  obtain ⟨b, b1, b2⟩ := zHa hcap (List.mem_of_getElem? hc)
  obtain ⟨b', b1', b3, b4⟩ := hcp i _ u hc hu
  have b1' : s1.mem caps[i].1 = some b' := b1'
  rw [b1] at b1'
  cases b1'
  obtain ⟨g, _, rfl⟩ := b4 b2.symm
  have h0 : caps[i].2.2 = 0 := Nat.eq_of_beq_eq_true (List.all_eq_true.1 hoff _ (List.mem_of_getElem? hc))
  have hx : xg (900000 + i) = g := by
   show (match vs[900000 + i - 900000]? with
    | some (.pointer (some ad)) => ad.block
    | _ => 0) = g
   rw [Nat.add_sub_cancel_left, hu]
  rw [hx, h0]
 have hR' : R X' ⟨zWK caps s1.tm, s1.mem⟩ { a with defers := ⟨.fn (.func f) vs.toArray, #[]⟩ :: a.defers } w := by
  refine ⟨μ, ⟨hM.bel, hM.blk⟩, hsz, by show _ :: a.defers = _; rw [hdf, hdf0], fun t => ?_⟩
  have h1 := hr t
  show zAy _ _ w (bif Nat.ble 1000000 t then s1.tm t else bif Nat.ble 900000 t then (match caps[t - 900000]? with | some c => .one (.ptr c.1 c.2.1 c.2.2) | none => .any) else s1.tm t) (zAL xg a.tmps t)
  cases hb : Nat.ble 1000000 t with
  | true =>
   have e2 : zAL xg a.tmps t = zAL X.xg a.tmps t := by unfold zAL; rw [hb]; rfl
   rw [e2]
   exact h1
  | false =>
   rw [cond_false]
   cases hb9 : Nat.ble 900000 t with
   | false =>
    have e2 : zAL xg a.tmps t = zAL X.xg a.tmps t := by unfold zAL; rw [hb, hb9]; rfl
    rw [e2]
    exact h1
   | true =>
    rw [cond_true]
    have hle := Nat.le_of_ble_eq_true hb9
    split
    ·rename_i c hc
     obtain ⟨u, hu⟩ : ∃ u, vs[t - 900000]? = some u := by
      have : t - 900000 < vs.length := by rw [<-hl0]; exact (List.getElem?_eq_some_iff.1 hc).1
      exact ⟨_, List.getElem?_eq_getElem this⟩
     have e2 : zAL xg a.tmps t = u := by
      rw [hptr _ u hu, show 900000 + (t - 900000) = t by omega]
      unfold zAL
      rw [hb, hb9]
      rfl
     rw [e2]
     have h3 := hcp _ c u hc hu
     refine ⟨by rw [hptr _ u hu]; rfl, h3⟩
    ·trivial
 refine wp_mono (hrest X' rfl _ _ hR') fun e a w ⟨s', hE, hRf⟩ => ?_
 have := hW X' f caps vs s' e a w rfl rfl rfl rfl hl0.symm hc9 hptr hRf hE
 cases e <;> exact this
def zVI : List Code -> Code -> Code
 | [], c => c
 | p :: r, c => .seq p (zVI r c)
def zNO (P : Program) (X : Ctx) (T : Nat -> Option TI) (rs : List ResultVar) (r : D) (K : St -> Prop) : List Code -> St -> Prop
 | [], s => K s
 | p :: ps, s => Tr P X p s (zKG T rs r fun s => zNO P X T rs r K ps s)
theorem zHV (hT : TOk P T) {f : Nat} {fn : Func} (pre : List Code) {rest : Code} {id : Nat} {ops : Array Oper} (hf : P.funcs[f]? = some fn) (hb : fn.body = some (zVI pre (.seq (.region id ops false) rest))) (hname : (fn.name == "runtime.NumGoroutine") = false) {gs : List (Nat × List E)} {args : List D} {r : D} (hn : args.length <= fn.ntmps)
  (h : ∀ X : Ctx, X.nt = fn.ntmps -> zNO P X T fn.results.toList r (fun s => zRf P T X ops rest fn.results.toList r s) pre (St.startG gs args))
  (hbig : Nat.ble fn.ntmps 900000 = true := by rfl) (hlt : Nat.ble 1048576 f = false := by rfl) : FnG P f gs args r := by
 refine ⟨⟨fn, _, hf, hb, Bool.or_eq_false_iff.2 ⟨hname, hlt⟩⟩, fun w vs I hgs hargs => ?_⟩
 have hlen : args.length = vs.size := by simpa using hargs.1
 let X : Ctx := ⟨w, I, fn.ntmps, Nat.le_of_ble_eq_true hbig, fun _ => False, fun _ => 0, []⟩
 have hend : ∀ e s a w', Ends T fn.results.toList r e s -> R X s a w' -> bodyPostD P fn (fun e w'' => ∃ v, e = .returned v /\ Below w.heap.size w w'' /\ zAy p0 (CI' w w'' I) w'' r v) e a w' := by
  rintro e s a w' ⟨he, φ, r', hres, hφ, rfl⟩ hR
  obtain ⟨v, g1, g2, g3⟩ := zOi (fn := fn) (w := w) (I := I) hT rfl rfl rfl hR hres hφ
  have hdf : a.defers = [] := by obtain ⟨_, _, _, hdf, _⟩ := hR; exact hdf
  have key : Leaves P fn a.tmps (fun e w'' => ∃ v, e = .returned v /\ Below w.heap.size w w'' /\ zAy p0 (CI' w w'' I) w'' r' v) a.defers .returning w' := by
   rw [hdf]
   exact ⟨v, g1, v, rfl, g2, g3⟩
  rcases he with rfl | rfl
  ·exact key
  ·exact key
 have hstep : ∀ (p c : Code) (s : St) (a : Act) (w' : World) (K : St -> Prop), R X s a w' -> Tr P X p s (zKG T fn.results.toList r K) -> (∀ s a w', R X s a w' -> K s -> c.wp P (bodyPostD P fn fun e w'' => ∃ v, e = .returned v /\ Below w.heap.size w w'' /\ zAy p0 (CI' w w'' I) w'' r v) a w') -> (Code.seq p c).wp P (bodyPostD P fn fun e w'' => ∃ v, e = .returned v /\ Below w.heap.size w w'' /\ zAy p0 (CI' w w'' I) w'' r v) a w' := by
  intro p c s a w' K hR hT1 hc
  refine wp_seq (wp_mono (hT1 a w' hR) fun e a w' ⟨s', hE, hR'⟩ => ?_)
  cases e with
  | normal => exact hc s' a w' hR' hE
  | _ => exact hend _ s' a w' hE hR'
 have hpre : ∀ (pre : List Code) (s : St) (a : Act) (w' : World), R X s a w' -> zNO P X T fn.results.toList r (fun s => zRf P T X ops rest fn.results.toList r s) pre s -> (zVI pre (.seq (.region id ops false) rest)).wp P (bodyPostD P fn fun e w'' => ∃ v, e = .returned v /\ Below w.heap.size w w'' /\ zAy p0 (CI' w w'' I) w'' r v) a w' := by
  intro pre
  induction pre with
  | nil => intro s a w' hR hK; exact zPW rfl hK (fun X' f caps vs s' e a w' h1 h2 h3 h4 h5 h6 h7 hR' hE => zNm hT h1 h2 h3 h4 h5 h6 h7 hR' hE) a w' hR
  | cons p ps ih => intro s a w' hR hK; exact hstep p _ s a w' _ hR hK ih
 refine calls_of_wp_defers hf hb (hpre pre (St.startG gs args) _ w ?_ (h X rfl))
 refine ⟨fun _ => none, ⟨Bel.refl _, fun id blk hb => nomatch hb⟩, by show (vs ++ Array.replicate (fn.ntmps - vs.size) undef).size = fn.ntmps; simp; omega, rfl, fun t => ?_⟩
 show zAy p0 _ w (bif Nat.ble 1000000 t then zPO gs (t - 1000000) else zDp args t) _
 cases hbt : Nat.ble 1000000 t with
 | true =>
  have hle := Nat.le_of_ble_eq_true hbt
  have e : zAL X.xg (vs ++ Array.replicate (fn.ntmps - vs.size) undef) t = .pointer (some ⟨t - 1000000, 0, none⟩) := by
   unfold zAL
   rw [hbt]
   rfl
  rw [e]
  exact zFf (fun x hx => (hgs x hx).p0_own fun b o u h => ⟨h.1, fun _ => h.2, fun _ id blk hb => nomatch hb⟩) _
 | false =>
 rw [cond_false, zCl]
 cases hd : args[t]? with
 | none => trivial
 | some d =>
  have ht : t < vs.size := by rw [<-hlen]; exact (List.getElem?_eq_some_iff.1 hd).1
  have hv : zAL X.xg (vs ++ Array.replicate (fn.ntmps - vs.size) undef) t = vs[t] := by
   have := Nat.le_of_ble_eq_true hbig
   rw [zCq (by omega), Array.getD_eq_getD_getElem?, Array.getElem?_append_left ht, Array.getElem?_eq_getElem ht]
   rfl
  simp only [Option.getD_some]
  rw [hv]
  refine (hargs.2 t d vs[t] hd (by simp [ht])).p0_own fun b o u h => ⟨h.1, fun _ => h.2, fun _ id blk hb => nomatch hb⟩
theorem zNv (hT : TOk P T) {f : Nat} {fn : Func} {p1 p2 p3 rest : Code} {id : Nat} {ops : Array Oper} (hf : P.funcs[f]? = some fn) (hb : fn.body = some (.seq p1 (.seq p2 (.seq p3 (.seq (.region id ops false) rest))))) (hname : (fn.name == "runtime.NumGoroutine") = false) {gs : List (Nat × List E)} {args : List D} {r : D} (hn : args.length <= fn.ntmps)
  (h : ∀ X : Ctx, X.nt = fn.ntmps -> Tr P X p1 (St.startG gs args) (zKG T fn.results.toList r fun s => Tr P X p2 s (zKG T fn.results.toList r fun s => Tr P X p3 s (zKG T fn.results.toList r fun s => zRf P T X ops rest fn.results.toList r s))))
  (hbig : Nat.ble fn.ntmps 900000 = true := by rfl) (hlt : Nat.ble 1048576 f = false := by rfl) : FnG P f gs args r := by
 exact zHV hT [p1, p2, p3] hf hb hname hn h hbig hlt
def zMl : Value -> Option Bool
 | .nilIface => some true
 | .iface _ _ => some false
 | _ => none
theorem zSo {t : TypeId} {ms : Array (String × TypeId)} {w : World} {v : Value} {b : Bool} (n : Nat) (hv : zMl v = some b) (hu : P.underlying t = some (.interface ms)) : (Op.equalIn (n + 1) t v .nilIface).run P w = .ok b w := by
 cases v with
 | nilIface => cases hv; simp [Op.equalIn, run_underlying hu]
 | iface ty u => cases hv; simp [Op.equalIn, run_underlying hu]
 | _ => cases hv
theorem zQk {t : TypeId} {ms : Array (String × TypeId)} {w : World} {v : Value} {b : Bool} (hv : zMl v = some b) (hu : P.underlying t = some (.interface ms)) : (binOp .neq t v .nilIface).run P w = .ok (.bool (!b)) w := by
 have h := zSo (w := w) 9999 hv hu
 cases v with
 | nilIface => simp only [binOp]; simp [Op.equal, Op.maxDepth, h]
 | iface ty u => simp only [binOp]; simp [Op.equal, Op.maxDepth, h]
 | _ => cases hv
theorem zM8 {t : TypeId} {w : World} {x : Operand} {v : Value} {b : Bool} (hv : zMl v = some b) : (eqGuard .neq t x (.const .nilIface) v .nilIface).run P w = .ok () w := by
 cases v with
 | nilIface => simp [eqGuard]
 | iface ty u => simp [eqGuard]
 | _ => cases hv
theorem zGh {ops : Array Oper} {s : St} {o : Oper} {t t2 d : Nat} {x : Operand} {v : Value} {b : Bool} {ms : Array (String × TypeId)} (hop : o.op = .binOp .neq t x (.const .nilIface) t2) (hg : o.guard = none) (hd : o.dst = some d) (hlt : Nat.blt d X.nt = true) (hx : (s.ev x).strip = .one (.e (.v v))) (hn : zAR s [x] = []) (hv : zMl v = some b) (hu : P.underlying t = some (.interface ms)) : OpT P X ops o s (s.app o.dst (.v (.bool (!b))) []) := by
 intro Q a w ⟨μ, hM, hsz, hdf, hr⟩
 rw [if_pos (show Region.wanted o _ = true by unfold Region.wanted; rw [hg])]
 have hf := zAA (zBn hr x) (zAC (fun p hp => by rw [hn] at hp; cases hp) x (List.mem_cons_self ..))
 rw [hx] at hf
 have hvx : a.eval x = v := zCu hf
 have hc : a.eval (.const .nilIface) = .nilIface := rfl
 have hcall : (execOp a.eval o).run P w = .ok (.value (.bool (!b))) w := by
  simp [execOp, hop, hvx, hc, zM8 hv, zQk hv hu]
 unfold Oper.wp
 rw [hcall, Oper.upon_value]
 refine ⟨μ, hM, by rw [hd]; simpa [Act.put] using hsz, by rw [hd]; exact hdf, ?_⟩
 exact zBF (X := X) hr Kept.rfl' (zAF rfl) hsz (by rw [hd]; exact hlt) []
end
end Go.Proofs.YtcdifgacoleckaaGreatDoor.Ab
