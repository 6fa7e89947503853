/- Part of the proof: steps of the program over abstract states. No condition. -/
import Derived.Test.YtcdifgacoleckaaGreatDoorG06
import Derived.Test.YtcdifgacoleckaaGreatDoorG10
import Derived.Test.YtcdifgacoleckaaGreatDoorG05
set_option linter.unusedVariables false
set_option linter.unusedSimpArgs false
namespace Go.Proofs.YtcdifgacoleckaaGreatDoor
open Go Go.RowKit Go.Proofs.YtcdifgacoleckaaGreatDoor.Ab
set_option maxRecDepth 100000
set_option maxHeartbeats 4000000
structure CSet where
 c : Byt
 x : Ex
structure Cmd where
 k : Int
 ow : Int
 tb : Byt
 dr : Int
 cs : List Colm
 ro : List Val
 ss : List CSet
 wh : Ex
 q : Qry
 to : Int
 rt : Int
 op : Bool
def zLS : CSet := ⟨[], ex0⟩
def zCe (s : CSet) : List E := [eT s.c, eI s.x.op, eI s.x.v.k, eI s.x.v.i, eQ s.x.v.b, eT s.x.v.t, eT s.x.n, .sl (zBv s.x.ar)]
def zBC (c : Cmd) : List E := [eI c.k, eI c.ow, eT c.tb, eI c.dr, zPf c.cs, zU2 c.ro, .sl (c.ss.map zCe), eI c.wh.op, eI c.wh.v.k, eI c.wh.v.i, eQ c.wh.v.b, eT c.wh.v.t, eT c.wh.n, .sl (zBv c.wh.ar), .sl (c.q.is.map zBP), eI c.q.w.op, eI c.q.w.v.k, eI c.q.w.v.i, eQ c.q.w.v.b, eT c.q.w.v.t, eT c.q.w.n, .sl (zBv c.q.w.ar), eT c.q.g, .sl (c.q.ss.map zC3), eBl c.q.c, eI c.q.m, eI c.to, eI c.rt, eBl c.op]
theorem seX (s : CSet) : List.take 7 (List.drop (0 + 1) (zCe s)) = eEx s.x := by rw [zAp]; rfl
theorem zGD (l : List CSet) : (l.map zCe).length = l.length := List.length_map ..
theorem zJu (l : List CSet) (i : Nat) (h : i < l.length) : (l.map zCe).getD i [] = zCe (l.getD i zLS) := by
 rw [List.getD_eq_getElem?_getD, List.getElem?_map, List.getElem?_eq_getElem h, List.getD_eq_getElem?_getD, List.getElem?_eq_getElem h]
 rfl
theorem cmW (c : Cmd) : List.take 7 (List.drop (0 + 7) (zBC c)) = eEx c.wh := by rw [zAp]; rfl
theorem cmQ (c : Cmd) : List.take 12 (List.drop (0 + 14) (zBC c)) = zDL c.q := rfl
theorem zS2 (c : Cmd) : List.take 29 (List.drop 0 (zBC c)) = zBC c := rfl
structure Cmd.ok (c : Cmd) : Prop where
 tb : c.tb.length <= maxLen
 cs : ∀ k ∈ c.cs, k.n.length <= maxLen
 ro : ∀ v ∈ c.ro, v.ok
 ss : ∀ s ∈ c.ss, s.c.length <= maxLen /\ zDe s.x
 wh : zDe c.wh
 q : c.q.ok
 g : c.q.g.length <= maxLen
instance (x : Ex) : Decidable (noC x) := inferInstanceAs (Decidable (_ /\ _))
mutual
theorem nd1 : ∀ x : Ex, ndF x ≠ 1
 | .mk op v n ar => by
  have h := zWO ar
  rw [zOK]
  split
  ·unfold zDN
   repeat' split
   all_goals decide
  ·exact h
theorem zWO : ∀ l : List Ex, ndL l ≠ 1
 | [] => by rw [ndL]; decide
 | a :: r => by
  have h1 := nd1 a
  have h2 := zWO r
  rw [ndL]
  split
  ·exact h1
  ·exact h2
end
def slP (x : Ex) : Prop := exF x ≠ 1
instance (x : Ex) : Decidable (slP x) := inferInstanceAs (Decidable (_ ≠ _))
theorem zRt (x : Ex) : slP x ↔ ht x <= 7 /\ zBY x <= 40 := by
 unfold slP exF
 split
 ·rename_i h; exact ⟨fun _ => h, fun _ => nd1 x⟩
 ·rename_i h; exact ⟨fun h' => absurd rfl h', fun h' => absurd h' h⟩
def cdP (x : Ex) : Prop := noC x \/ exF x = 0
instance (x : Ex) : Decidable (cdP x) := inferInstanceAs (Decidable (_ \/ _))
theorem zE0 (x : Ex) : FnD Tryz.prog 59 [.agg (.es (eEx x))] (.v (.bool (decide (noC x)))) := by
 refine zD 23 Tryz.func59 fun X hnt => ?_
 have hml := zC8 x.ar
 have e1 := zSU x.v zBD
 rw [zAp]
 repeat' first | refine zx ?_ | apply zn
 repeat' apply zn
 refine zAb ⟨.inr rfl, _, _, rfl, trivial, ?_⟩
 show D.v (.bool (bif bif bif decide (x.op = 0) then zA1 (zA5 x.n) ⟨#[]⟩ else false then zvB x.v else false then decide (((zBv x.ar).length : Int) = 0) else false)) = D.v (.bool (decide (noC x)))
 rw [zAD, zHz, hml]
 congr 2
 refine zDE ?_
 simp only [zz]
 unfold noC
 constructor
 ·rintro ⟨⟨⟨k1, k2⟩, k3⟩, k4⟩
  exact ⟨k1, k2, k3, by omega⟩
 ·rintro ⟨k1, k2, k3, k4⟩
  exact ⟨⟨⟨k1, k2⟩, k3⟩, by omega⟩
theorem zIh (x : Ex) (h : zDe x) : FnG Tryz.prog 57 gK [.agg (.es (eEx x))] (.v (.bool (decide (slP x)))) := by
 refine zG 6 Tryz.func57 fun X hnt => ?_
 have h1 := zC9 x h
 have hx7 := ex7 x
 have f1 : 0 + 7 <= (Cs.es (eEx x)).len := by show 0 + 7 <= (eEx x).length; omega
 rw [<-zIN x] at h1
 refine zxa ?_
 repeat' apply zn
 refine zAa (zzx hnt rfl ?_ (callV rfl rfl rfl rfl rfl rfl rfl hnt rfl (h1) (zzx hnt rfl ?_ (Lex.nil _)))) ?_
 ·exact zza
 ·exact zza
 repeat' apply zn
 refine zAb ⟨.inr rfl, _, _, rfl, trivial, ?_⟩
 show D.v (.bool (!decide (exF x = 1))) = D.v (.bool (decide (slP x)))
 refine congrArg (fun b => D.v (.bool b)) (Bool.eq_iff_iff.2 ?_)
 simp only [zz]
 exact Iff.rfl
theorem zIq (s : Byt) (hs : s.length <= maxLen) : FnG Tryz.prog 60 gK [.one (.e (eT s))] (.v (.bool (decide (zC2 s)))) := by
 refine zG 7 Tryz.func60 fun X hnt => ?_
 have h1 := zCU ⟨1, s, 0, 0⟩ hs
 have h2 := zLM s
 refine zxa ?_
 repeat' apply zn
 refine zAa (zzx hnt rfl ?_ (callV rfl rfl rfl rfl rfl rfl rfl hnt rfl (h1) (zzx hnt rfl ?_ (Lex.nil _)))) ?_
 ·exact zza
 ·exact zza
 repeat' apply zn
 refine zAb ⟨.inr rfl, _, _, rfl, trivial, ?_⟩
 show D.v (.bool (decide (tkF ⟨1, s, 0, 0⟩ = 0))) = _
 congr 2
 exact decide_eq_decide.2 h2
theorem zEg (s : Byt) (hs : s.length <= maxLen) : FnD Tryz.prog 37 [.one (.e (eT s))] (.v (.bool (decide (zC2 s)))) := by
 refine zD 10 Tryz.func37 fun X hnt => ?_
 have h1 := zFd s hs
 have hl : (zA5 s).size = s.length := zAJ s
 repeat' first | refine zx ?_ | apply zn
 repeat' apply zn
 refine zAa (zzx hnt rfl ?_ (call rfl rfl rfl rfl rfl rfl rfl hnt (h1) (zzx hnt rfl ?_ (Lex.nil _)))) ?_
 ·exact zza
 ·exact zza
 repeat' apply zn
 refine zAb ⟨.inr rfl, _, _, rfl, trivial, ?_⟩
 show D.v (.bool (bif zRR s then decide (((zA5 s).size : Int) <= 8) else false)) = _
 congr 2
 refine zDE ?_
 simp only [zEt, zAr, zAs, zGp, zBm, zBp, decide_eq_true_eq, decide_eq_false_iff_not, hl]
 unfold zC2
 constructor
 ·rintro ⟨k1, k2⟩; exact ⟨k1, by omega⟩
 ·rintro ⟨k1, k2⟩; exact ⟨k1, by omega⟩
theorem zFV (x : Ex) (h : zDe x) : FnG Tryz.prog 63 gK [.agg (.es (eEx x))] (.v (.bool (decide (cdP x)))) := by
 refine zG 10 Tryz.func63 fun X hnt => ?_
 have h1 := zE0 x
 have h2 := zC9 x h
 have hx7 := ex7 x
 have f1 : 0 + 7 <= (Cs.es (eEx x)).len := by show 0 + 7 <= (eEx x).length; omega
 rw [<-zIN x] at h1 h2
 refine zxa ?_
 repeat' apply zn
 refine zAa (zzx hnt rfl ?_ (call rfl rfl rfl rfl rfl rfl rfl hnt (h1) (zzx hnt rfl ?_ (callVG rfl rfl rfl rfl rfl rfl hnt rfl (fun hq => ?_) rfl (fun hq => h2) (zzx hnt rfl ?_ (Lex.nil _)))))) ?_
 ·exact zza
 ·exact zza
 ·exact zza
 ·exact zza
 repeat' apply zn
 refine zAb ⟨.inr rfl, _, _, rfl, trivial, ?_⟩
 show D.v (.bool (bif decide (noC x) then true else decide (exF x = 0))) = _
 congr 2
 refine zDE ?_
 simp only [zz]
 rfl
theorem zGM (x : Ex) (h : zDe x) : FnG Tryz.prog 39 gK [.agg (.es (eEx x))] (.v (.bool (decide (cdP x)))) := by
 refine zG 10 Tryz.func39 fun X hnt => ?_
 have h1 := zE7 x
 have h2 := zD5 x h
 have hx7 := ex7 x
 have f1 : 0 + 7 <= (Cs.es (eEx x)).len := by show 0 + 7 <= (eEx x).length; omega
 rw [<-zIN x] at h1 h2
 refine zxa ?_
 repeat' apply zn
 refine zAa (zzx hnt rfl ?_ (call rfl rfl rfl rfl rfl rfl rfl hnt (h1) (zzx hnt rfl ?_ (callVG rfl rfl rfl rfl rfl rfl hnt rfl (fun hq => ?_) rfl (fun hq => h2) (zzx hnt rfl ?_ (Lex.nil _)))))) ?_
 ·exact zza
 ·exact zza
 ·exact zza
 ·exact zza
 repeat' apply zn
 refine zAb ⟨.inr rfl, _, _, rfl, trivial, ?_⟩
 show D.v (.bool (bif decide (noC x) then true else decide (exF x = 0))) = _
 congr 2
 refine zDE ?_
 simp only [zz]
 rfl
def lnP (c : Cmd) : Prop := ((((c.cs.length <= 5 /\ c.ro.length <= 5) /\ c.ss.length <= 4) /\ c.q.is.length <= 4) /\ c.q.ss.length <= 4)
instance (c : Cmd) : Decidable (lnP c) := inferInstanceAs (Decidable (_ /\ _))
def slB (c : Cmd) : Bool := ((decide (slP c.wh) && decide (slP c.q.w)) && c.ss.all fun s => decide (slP s.x)) && c.q.is.all fun t => decide (slP t.x)
theorem cm4 (c : Cmd) : ((zBC c).getD (0 + 4) E.dflt).xs = c.cs.map zCm := rfl
theorem cm5 (c : Cmd) : ((zBC c).getD (0 + 5) E.dflt).xs = c.ro.map zBw := rfl
theorem cm6 (c : Cmd) : ((zBC c).getD (0 + 6) E.dflt).xs = c.ss.map zCe := rfl
theorem zCn (a b : Bool) : (bif a then b else false) = (a && b) := by cases a <;> rfl
theorem zM2 (c : Cmd) (h : c.ok) : FnG Tryz.prog 18 gK [.agg (.es (zBC c))] (.v (.bool (decide (lnP c) && slB c))) := by
 refine zG 76 Tryz.func18 fun X hnt => ?_
 have f29 : 0 + 29 <= (Cs.es (zBC c)).len := Nat.le_refl 29
 have h1 := zIh c.wh h.wh
 have h2 := zIh c.q.w h.q.w
 have l1 := zFL c.cs
 have l2 := zHH c.ro
 have l3 := zGD c.ss
 have l4 := zFT c.q.is
 have l5 := zGB c.q.ss
 rw [<-cmW c] at h1
 refine zxa ?_
 refine zxa ?_
 refine zAq (s' := St.of [(1, .one (.ptr 1 0 0)), (3, .one (.ptr 3 0 0)), ((1000000 + 5), .one (.eptr fsE)), ((1000000 + 6), .one (.eptr acE))] [(1, ⟨0, .box (.es (zBC c)), 0⟩), (3, ⟨0, .box (.es (zDL c.q)), 0⟩)]) (zAh (ad := []) (by refine ⟨?_, ?_, ?_, ?_, trivial⟩ <;> first | exact trivial | rfl | exact ⟨rfl, rfl⟩ | exact ⟨rfl, rfl, rfl⟩ | exact ⟨rfl, rfl, rfl, rfl⟩ | exact ⟨rfl, rfl, rfl, rfl, rfl⟩ | exact congrArg (fun z : Int => E.v (.int .i64 z)) (zAf (by omega) (by omega)) | (refine ⟨rfl, ?_⟩; repeat' first | exact trivial | rfl | apply And.intro)) zm) ?_
 repeat' first | refine zx ?_ | fail
 refine zc (fun hc => ?_) fun hc => ?_
 ·have hc : (bif bif bif bif decide (5 < ((c.cs.map zCm).length : Int)) then true else decide (5 < ((c.ro.map zBw).length : Int)) then true else decide (4 < ((c.ss.map zCe).length : Int)) then true else decide (4 < ((c.q.is.map zBP).length : Int)) then true else decide (4 < ((c.q.ss.map zC3).length : Int))) = true := hc
  rw [l1, l2, l3, l4, l5] at hc
  simp only [zz] at hc
  have hn : ¬ lnP c := by unfold lnP; omega
  rw [decide_eq_false hn]
  repeat' first | refine zx ?_ | apply zn
  exact zAb ⟨.inr rfl, _, _, rfl, trivial, rfl⟩
 have hc : (bif bif bif bif decide (5 < ((c.cs.map zCm).length : Int)) then true else decide (5 < ((c.ro.map zBw).length : Int)) then true else decide (4 < ((c.ss.map zCe).length : Int)) then true else decide (4 < ((c.q.is.map zBP).length : Int)) then true else decide (4 < ((c.q.ss.map zC3).length : Int))) = false := hc
 rw [l1, l2, l3, l4, l5] at hc
 simp only [zz] at hc
 have hn : lnP c := by unfold lnP; omega
 rw [decide_eq_true hn, Bool.true_and]
 have hn1 := hn
 unfold lnP at hn1
 rw [<-quW c.q] at h2
 repeat' apply zn
 refine zAa (zzx hnt rfl ?_ (callV rfl rfl rfl rfl rfl rfl rfl hnt rfl (h1) (zzx hnt rfl ?_ (callVG rfl rfl rfl rfl rfl rfl hnt rfl (fun hq => ?_) rfl (fun hq => h2) (zzx hnt rfl ?_ (Lex.nil _)))))) ?_
 ·exact zza
 ·exact zza
 ·exact zza
 ·exact zza
 clear hc
 repeat' first | refine zx ?_ | apply zn
 repeat' apply zn
 refine zAx (σ := Nat × Bool) (fun y => St.of [(3, .one (.ptr 3 0 0)), (4, .v (.bool y.2)), (48, .one (.e (.sl (c.ss.map zCe)))), (49, .one (.e (eI ((c.ss.map zCe).length : Int)))), (50, .one (.e (eI (y.1 : Int)))), ((1000000 + 5), .one (.eptr fsE)), ((1000000 + 6), .one (.eptr acE))] [(3, ⟨0, .box (.es (zDL c.q)), 0⟩)]) (fun y => (y.2 && (c.ss.drop y.1).all fun s => decide (slP s.x)) = ((decide (slP c.wh) && decide (slP c.q.w)) && c.ss.all fun s => decide (slP s.x)) /\ y.1 <= c.ss.length) (fun y => c.ss.length - y.1) ((0, bif decide (slP c.wh) then decide (slP c.q.w) else false)) (zAh (ad := []) (by refine ⟨?_, ?_, ?_, ?_, ?_, ?_, ?_, trivial⟩ <;> first | exact trivial | rfl | exact ⟨rfl, rfl⟩ | exact ⟨rfl, rfl, rfl⟩ | exact ⟨rfl, rfl, rfl, rfl⟩ | exact ⟨rfl, rfl, rfl, rfl, rfl⟩ | exact congrArg (fun z : Int => E.v (.int .i64 z)) (zAf (by omega) (by omega)) | (refine ⟨rfl, ?_⟩; repeat' first | exact trivial | rfl | apply And.intro)) zm) ⟨by rw [zCn]; rfl, Nat.zero_le _⟩ ?_
 rintro ⟨i, b⟩ ⟨hb, il⟩
 dsimp only at hb il ⊢
 repeat' first | refine zx ?_ | fail
 refine zc (fun hc => ?_) fun hc => ?_
 ·simp only [zz] at hc
  (try simp only [l3] at hc)
  (try simp only [zz] at hc)
  have hlt : i < c.ss.length := by omega
  have hg := zJu c.ss i hlt
  have hok := (h.ss _ (zQA (d := zLS) hlt)).2
  rw [zAS (d := zLS) hlt, List.all_cons, <-Bool.and_assoc] at hb
  refine zy ?_ ?_
  ·rw [Int.toNat_natCast, hg]
   exact zza
  rw [Int.toNat_natCast, hg]
  generalize c.ss.getD i zLS = s at *
  have h3 := zIh s.x hok
  rw [<-seX s] at h3
  repeat' apply zn
  refine zAa (zzx hnt rfl ?_ (callVG rfl rfl rfl rfl rfl rfl hnt rfl (fun hq => ?_) rfl (fun hq => h3) (zzx hnt rfl ?_ (Lex.nil _)))) ?_
  ·exact zza
  ·exact zza
  ·exact zza
  have h64 : IntKind.i64.wrap ((i : Int) + 1) = ((i + 1 : Nat) : Int) := zAf (by omega) (by omega)
  repeat' first | refine zx ?_ | apply zn
  rw [h64, zCn]
  refine ⟨(i + 1, b && decide (slP s.x)), ⟨hb, by dsimp only; omega⟩, by dsimp only; omega, zAh (ad := []) (by refine ⟨?_, ?_, ?_, ?_, ?_, ?_, ?_, trivial⟩ <;> first | exact trivial | rfl | exact ⟨rfl, rfl⟩ | exact ⟨rfl, rfl, rfl⟩ | exact ⟨rfl, rfl, rfl, rfl⟩ | exact ⟨rfl, rfl, rfl, rfl, rfl⟩ | exact congrArg (fun z : Int => E.v (.int .i64 z)) (zAf (by omega) (by omega)) | (refine ⟨rfl, ?_⟩; repeat' first | exact trivial | rfl | apply And.intro)) zm⟩
 simp only [zz] at hc
 (try simp only [l3] at hc)
 (try simp only [zz] at hc)
 refine zAt ?_
 rw [List.drop_eq_nil_of_le (by omega), List.all_nil, Bool.and_true] at hb
 subst hb
 repeat' first | refine zx ?_ | apply zn
 repeat' apply zn
 refine zAx (σ := Nat × Bool) (fun y => St.of [(4, .v (.bool y.2)), (62, .one (.e (.sl (c.q.is.map zBP)))), (63, .one (.e (eI ((c.q.is.map zBP).length : Int)))), (64, .one (.e (eI (y.1 : Int)))), ((1000000 + 5), .one (.eptr fsE)), ((1000000 + 6), .one (.eptr acE))] []) (fun y => (y.2 && (c.q.is.drop y.1).all fun s => decide (slP s.x)) = slB c /\ y.1 <= c.q.is.length) (fun y => c.q.is.length - y.1) ((0, ((decide (slP c.wh) && decide (slP c.q.w)) && c.ss.all fun s => decide (slP s.x)))) (zAh (ad := []) (by refine ⟨?_, ?_, ?_, ?_, ?_, ?_, trivial⟩ <;> first | exact trivial | rfl | exact ⟨rfl, rfl⟩ | exact ⟨rfl, rfl, rfl⟩ | exact ⟨rfl, rfl, rfl, rfl⟩ | exact ⟨rfl, rfl, rfl, rfl, rfl⟩ | exact congrArg (fun z : Int => E.v (.int .i64 z)) (zAf (by omega) (by omega)) | (refine ⟨rfl, ?_⟩; repeat' first | exact trivial | rfl | apply And.intro)) trivial) ⟨rfl, Nat.zero_le _⟩ ?_
 rintro ⟨i, b⟩ ⟨hb, il⟩
 dsimp only at hb il ⊢
 repeat' first | refine zx ?_ | fail
 refine zc (fun hc => ?_) fun hc => ?_
 ·simp only [zz] at hc
  (try simp only [l4] at hc)
  (try simp only [zz] at hc)
  have hlt : i < c.q.is.length := by omega
  have hg := zJW c.q.is i hlt
  have hok := h.q.is _ (zQA (d := zMk) hlt)
  rw [zAS (d := zMk) hlt, List.all_cons, <-Bool.and_assoc] at hb
  refine zy ?_ ?_
  ·rw [Int.toNat_natCast, hg]
   exact zza
  rw [Int.toNat_natCast, hg]
  generalize c.q.is.getD i zMk = s at *
  have h3 := zIh s.x hok
  rw [<-itX s] at h3
  repeat' apply zn
  refine zAa (zzx hnt rfl ?_ (callVG rfl rfl rfl rfl rfl rfl hnt rfl (fun hq => ?_) rfl (fun hq => h3) (zzx hnt rfl ?_ (Lex.nil _)))) ?_
  ·exact zza
  ·exact zza
  ·exact zza
  have h64 : IntKind.i64.wrap ((i : Int) + 1) = ((i + 1 : Nat) : Int) := zAf (by omega) (by omega)
  repeat' first | refine zx ?_ | apply zn
  rw [h64, zCn]
  refine ⟨(i + 1, b && decide (slP s.x)), ⟨hb, by dsimp only; omega⟩, by dsimp only; omega, zAh (ad := []) (by refine ⟨?_, ?_, ?_, ?_, ?_, ?_, trivial⟩ <;> first | exact trivial | rfl | exact ⟨rfl, rfl⟩ | exact ⟨rfl, rfl, rfl⟩ | exact ⟨rfl, rfl, rfl, rfl⟩ | exact ⟨rfl, rfl, rfl, rfl, rfl⟩ | exact congrArg (fun z : Int => E.v (.int .i64 z)) (zAf (by omega) (by omega)) | (refine ⟨rfl, ?_⟩; repeat' first | exact trivial | rfl | apply And.intro)) trivial⟩
 simp only [zz] at hc
 (try simp only [l4] at hc)
 (try simp only [zz] at hc)
 refine zAt ?_
 rw [List.drop_eq_nil_of_le (by omega), List.all_nil, Bool.and_true] at hb
 subst hb
 repeat' first | refine zx ?_ | apply zn
 exact zAb ⟨.inr rfl, _, _, rfl, trivial, rfl⟩
def itB (t : Itm) : Bool := decide (0 <= t.a /\ t.a <= 4) && (if t.a = 1 then decide (noC t.x) else decide (exF t.x = 0))
def srB (s : QSo) : Bool := decide (0 <= s.i)
def asP (q : Qry) : Prop := ((cdP q.w /\ (q.g.length = 0 \/ zC2 q.g)) /\ 0 <= q.m) /\ (q.c = true \/ q.m = 0)
instance (q : Qry) : Decidable (asP q) := inferInstanceAs (Decidable (_ /\ _))
def asB (q : Qry) : Bool := ((decide (asP q) && q.is.all itB) && q.ss.all srB) && decide (0 < q.is.length)
def zKu (q : Qry) : Prop := ((((0 < q.is.length \/ ¬ noC q.w) \/ q.g.length ≠ 0) \/ 0 < q.ss.length) \/ q.c = true) \/ q.m ≠ 0
instance (q : Qry) : Decidable (zKu q) := inferInstanceAs (Decidable (_ \/ _))
theorem it0 (t : Itm) : ((zBP t).getD (0 + 0) E.dflt).int = t.a := rfl
theorem zQ9 (q : Qry) (h : q.ok) (hgn : q.g.length <= maxLen) : FnG Tryz.prog 64 gK [.agg (.es (zDL q))] (.v (.bool (asB q))) := by
 refine zG 77 Tryz.func64 fun X hnt => ?_
 have f12 : 0 + 12 <= (Cs.es (zDL q)).len := Nat.le_refl 12
 have h1 := zFV q.w h.w
 have h2 := zIq q.g hgn
 have hli := h.li
 have hls := h.ls
 unfold maxLen at hli hls
 have l4 := zFT q.is
 have l5 := zGB q.ss
 rw [<-quW q] at h1
 refine zxa ?_
 repeat' apply zn
 refine zAa (zzx hnt rfl ?_ (callV rfl rfl rfl rfl rfl rfl rfl hnt rfl (h1) (zzx hnt rfl ?_ (callVG rfl rfl rfl rfl rfl rfl hnt rfl (fun hq => ?_) rfl (fun hq => h2) (zzx hnt rfl ?_ (Lex.nil _)))))) ?_
 ·exact zza
 ·exact zza
 ·exact zza
 ·exact zza
 have hP : (bif bif bif !decide (cdP q.w) then true else (bif !zA1 (zA5 q.g) ⟨#[]⟩ then !decide (zC2 q.g) else false) then true else decide (q.m < 0) then true else (bif !q.c then !decide (q.m = 0) else false)) = !decide (asP q) := by
  rw [zAD, Bool.eq_iff_iff]
  simp only [zz]
  unfold asP
  cases q.c <;> by_cases k1 : cdP q.w <;> by_cases k2 : q.g.length = 0 <;> by_cases k3 : zC2 q.g <;> simp [k1, k2, k3] <;> omega
 refine zc (fun hc => ?_) fun hc => ?_
 ·have hc : (bif bif bif !decide (cdP q.w) then true else (bif !zA1 (zA5 q.g) ⟨#[]⟩ then !decide (zC2 q.g) else false) then true else decide (q.m < 0) then true else (bif !q.c then !decide (q.m = 0) else false)) = true := hc
  rw [hP] at hc
  simp only [zz] at hc
  have hz : asB q = false := by unfold asB; rw [decide_eq_false hc]; rfl
  rw [hz]
  repeat' first | refine zx ?_ | apply zn
  exact zAb ⟨.inr rfl, _, _, rfl, trivial, rfl⟩
 have hc : (bif bif bif !decide (cdP q.w) then true else (bif !zA1 (zA5 q.g) ⟨#[]⟩ then !decide (zC2 q.g) else false) then true else decide (q.m < 0) then true else (bif !q.c then !decide (q.m = 0) else false)) = false := hc
 rw [hP] at hc
 simp only [zz] at hc
 have hpp := hc
 clear hc hP
 repeat' first | refine zx ?_ | apply zn
 repeat' apply zn
 refine zAx (σ := Nat) (fun i => St.of [(1, .one (.ptr 1 0 0)), (38, .one (.e (.sl (q.is.map zBP)))), (39, .one (.e (eI ((q.is.map zBP).length : Int)))), (40, .one (.e (eI (i : Int)))), ((1000000 + 5), .one (.eptr fsE)), ((1000000 + 6), .one (.eptr acE))] [(1, ⟨0, .box (.es (zDL q)), 0⟩)]) (fun i => (q.is.drop i).all itB = q.is.all itB /\ i <= q.is.length) (fun i => q.is.length - i) (0) (zAh (ad := []) (by refine ⟨?_, ?_, ?_, ?_, ?_, ?_, trivial⟩ <;> first | exact trivial | rfl | exact ⟨rfl, rfl⟩ | exact ⟨rfl, rfl, rfl⟩ | exact ⟨rfl, rfl, rfl, rfl⟩ | exact ⟨rfl, rfl, rfl, rfl, rfl⟩ | exact congrArg (fun z : Int => E.v (.int .i64 z)) (zAf (by omega) (by omega)) | (refine ⟨rfl, ?_⟩; repeat' first | exact trivial | rfl | apply And.intro)) zm) ⟨rfl, Nat.zero_le _⟩ ?_
 rintro i ⟨hb, il⟩
 repeat' first | refine zx ?_ | fail
 refine zc (fun hc => ?_) fun hc => ?_
 ·simp only [zz] at hc
  (try simp only [l4] at hc)
  (try simp only [zz] at hc)
  have hlt : i < q.is.length := by omega
  have hg := zJW q.is i hlt
  have hok := h.is _ (zQA (d := zMk) hlt)
  rw [zAS (d := zMk) hlt, List.all_cons] at hb
  refine zy ?_ ?_
  ·rw [Int.toNat_natCast, hg]
   exact zza
  rw [Int.toNat_natCast, hg]
  generalize q.is.getD i zMk = t at *
  refine zAq (s' := St.of [(1, .one (.ptr 1 0 0)), (4, .one (.ptr 4 0 0)), (38, .one (.e (.sl (q.is.map zBP)))), (39, .one (.e (eI ((q.is.map zBP).length : Int)))), (40, .one (.e (eI (i : Int)))), ((1000000 + 5), .one (.eptr fsE)), ((1000000 + 6), .one (.eptr acE))] [(1, ⟨0, .box (.es (zDL q)), 0⟩), (4, ⟨0, .box (.es (zBP t)), 0⟩)]) (zAh (ad := []) (by refine ⟨?_, ?_, ?_, ?_, ?_, ?_, ?_, trivial⟩ <;> first | exact trivial | rfl | exact ⟨rfl, rfl⟩ | exact ⟨rfl, rfl, rfl⟩ | exact ⟨rfl, rfl, rfl, rfl⟩ | exact ⟨rfl, rfl, rfl, rfl, rfl⟩ | exact congrArg (fun z : Int => E.v (.int .i64 z)) (zAf (by omega) (by omega)) | (refine ⟨rfl, ?_⟩; repeat' first | exact trivial | rfl | apply And.intro)) zm) ?_
  have h3 := zE0 t.x
  have h4 := zC9 t.x hok
  rw [<-itX t] at h3 h4
  have h64 : IntKind.i64.wrap ((i : Int) + 1) = ((i + 1 : Nat) : Int) := zAf (by omega) (by omega)
  repeat' first | refine zx ?_ | fail
  refine zc (fun hc => ?_) fun hc => ?_
  ·simp only [zz] at hc
   (try simp only [it0 t] at hc)
   (try simp only [zz] at hc)
   have ha := hc
   have hib : itB t = decide (noC t.x) := by
    unfold itB
    rw [decide_eq_true (show 0 <= t.a /\ t.a <= 4 by omega), Bool.true_and, if_pos ha]
   rw [hib] at hb
   repeat' apply zn
   refine zAa (zzx hnt rfl ?_ (call rfl rfl rfl rfl rfl rfl rfl hnt (h3) (zzx hnt rfl ?_ (Lex.nil _)))) ?_
   ·exact zza
   ·exact zza
   refine zc (fun hc => ?_) fun hc => ?_
   ·have hc : (!decide (noC t.x)) = true := hc
    simp only [zz] at hc
    rw [decide_eq_false hc, Bool.false_and] at hb
    repeat' first | refine zx ?_ | apply zn
    have hz : asB q = false := by
     unfold asB
     rw [<-hb]
     cases decide (asP q) <;> rfl
    rw [hz]
    exact zAb ⟨.inr rfl, _, _, rfl, trivial, rfl⟩
   have hc : (!decide (noC t.x)) = false := hc
   simp only [zz] at hc
   rw [decide_eq_true hc, Bool.true_and] at hb
   repeat' first | refine zx ?_ | apply zn
   rw [h64]
   refine ⟨(i + 1), ⟨hb, by omega⟩, by omega, zAh (ad := []) (by refine ⟨?_, ?_, ?_, ?_, ?_, ?_, trivial⟩ <;> first | exact trivial | rfl | exact ⟨rfl, rfl⟩ | exact ⟨rfl, rfl, rfl⟩ | exact ⟨rfl, rfl, rfl, rfl⟩ | exact ⟨rfl, rfl, rfl, rfl, rfl⟩ | exact congrArg (fun z : Int => E.v (.int .i64 z)) (zAf (by omega) (by omega)) | (refine ⟨rfl, ?_⟩; repeat' first | exact trivial | rfl | apply And.intro)) zm⟩
  simp only [zz] at hc
  (try simp only [it0 t] at hc)
  (try simp only [zz] at hc)
  have h1n := hc
  repeat' first | refine zx ?_ | fail
  refine zc (fun hc => ?_) fun hc => ?_
  ·simp only [zz] at hc
   (try simp only [it0 t] at hc)
   (try simp only [zz] at hc)
   have ha := hc
   refine zc (fun hc => ?_) fun hc => ?_
   ·have hc2 : decide (t.a = 0) = true := hc
    have hib : itB t = decide (exF t.x = 0) := by
     unfold itB
     rw [decide_eq_true (show 0 <= t.a /\ t.a <= 4 by omega), Bool.true_and, if_neg (by omega)]
    rw [hib] at hb
    repeat' apply zn
    refine zAa (zzx hnt rfl ?_ (callV rfl rfl rfl rfl rfl rfl rfl hnt rfl (h4) (zzx hnt rfl ?_ (Lex.nil _)))) ?_
    ·exact zza
    ·exact zza
    refine zc (fun hc => ?_) fun hc => ?_
    ·have hc : (!decide (exF t.x = 0)) = true := hc
     simp only [zz] at hc
     rw [decide_eq_false hc, Bool.false_and] at hb
     repeat' first | refine zx ?_ | apply zn
     have hz : asB q = false := by
      unfold asB
      rw [<-hb]
      cases decide (asP q) <;> rfl
     rw [hz]
     exact zAb ⟨.inr rfl, _, _, rfl, trivial, rfl⟩
    have hc : (!decide (exF t.x = 0)) = false := hc
    simp only [zz] at hc
    rw [decide_eq_true hc, Bool.true_and] at hb
    repeat' first | refine zx ?_ | apply zn
    rw [h64]
    refine ⟨(i + 1), ⟨hb, by omega⟩, by omega, zAh (ad := []) (by refine ⟨?_, ?_, ?_, ?_, ?_, ?_, trivial⟩ <;> first | exact trivial | rfl | exact ⟨rfl, rfl⟩ | exact ⟨rfl, rfl, rfl⟩ | exact ⟨rfl, rfl, rfl, rfl⟩ | exact ⟨rfl, rfl, rfl, rfl, rfl⟩ | exact congrArg (fun z : Int => E.v (.int .i64 z)) (zAf (by omega) (by omega)) | (refine ⟨rfl, ?_⟩; repeat' first | exact trivial | rfl | apply And.intro)) zm⟩
   exact absurd (show decide (t.a = 0) = false from hc) (by rw [decide_eq_true ha]; decide)
  simp only [zz] at hc
  (try simp only [it0 t] at hc)
  (try simp only [zz] at hc)
  have h0n := hc
  repeat' first | refine zx ?_ | fail
  refine zc (fun hc => ?_) fun hc => ?_
  ·simp only [zz] at hc
   (try simp only [it0 t] at hc)
   (try simp only [zz] at hc)
   have ha := hc
   refine zc (fun hc => ?_) fun hc => ?_
   ·have hc2 : decide (t.a = 2) = true := hc
    have hib : itB t = decide (exF t.x = 0) := by
     unfold itB
     rw [decide_eq_true (show 0 <= t.a /\ t.a <= 4 by omega), Bool.true_and, if_neg (by omega)]
    rw [hib] at hb
    repeat' apply zn
    refine zAa (zzx hnt rfl ?_ (callV rfl rfl rfl rfl rfl rfl rfl hnt rfl (h4) (zzx hnt rfl ?_ (Lex.nil _)))) ?_
    ·exact zza
    ·exact zza
    refine zc (fun hc => ?_) fun hc => ?_
    ·have hc : (!decide (exF t.x = 0)) = true := hc
     simp only [zz] at hc
     rw [decide_eq_false hc, Bool.false_and] at hb
     repeat' first | refine zx ?_ | apply zn
     have hz : asB q = false := by
      unfold asB
      rw [<-hb]
      cases decide (asP q) <;> rfl
     rw [hz]
     exact zAb ⟨.inr rfl, _, _, rfl, trivial, rfl⟩
    have hc : (!decide (exF t.x = 0)) = false := hc
    simp only [zz] at hc
    rw [decide_eq_true hc, Bool.true_and] at hb
    repeat' first | refine zx ?_ | apply zn
    rw [h64]
    refine ⟨(i + 1), ⟨hb, by omega⟩, by omega, zAh (ad := []) (by refine ⟨?_, ?_, ?_, ?_, ?_, ?_, trivial⟩ <;> first | exact trivial | rfl | exact ⟨rfl, rfl⟩ | exact ⟨rfl, rfl, rfl⟩ | exact ⟨rfl, rfl, rfl, rfl⟩ | exact ⟨rfl, rfl, rfl, rfl, rfl⟩ | exact congrArg (fun z : Int => E.v (.int .i64 z)) (zAf (by omega) (by omega)) | (refine ⟨rfl, ?_⟩; repeat' first | exact trivial | rfl | apply And.intro)) zm⟩
   exact absurd (show decide (t.a = 2) = false from hc) (by rw [decide_eq_true ha]; decide)
  simp only [zz] at hc
  (try simp only [it0 t] at hc)
  (try simp only [zz] at hc)
  have h2n := hc
  repeat' first | refine zx ?_ | fail
  refine zc (fun hc => ?_) fun hc => ?_
  ·simp only [zz] at hc
   (try simp only [it0 t] at hc)
   (try simp only [zz] at hc)
   have ha := hc
   refine zc (fun hc => ?_) fun hc => ?_
   ·have hc2 : decide (t.a = 3) = true := hc
    have hib : itB t = decide (exF t.x = 0) := by
     unfold itB
     rw [decide_eq_true (show 0 <= t.a /\ t.a <= 4 by omega), Bool.true_and, if_neg (by omega)]
    rw [hib] at hb
    repeat' apply zn
    refine zAa (zzx hnt rfl ?_ (callV rfl rfl rfl rfl rfl rfl rfl hnt rfl (h4) (zzx hnt rfl ?_ (Lex.nil _)))) ?_
    ·exact zza
    ·exact zza
    refine zc (fun hc => ?_) fun hc => ?_
    ·have hc : (!decide (exF t.x = 0)) = true := hc
     simp only [zz] at hc
     rw [decide_eq_false hc, Bool.false_and] at hb
     repeat' first | refine zx ?_ | apply zn
     have hz : asB q = false := by
      unfold asB
      rw [<-hb]
      cases decide (asP q) <;> rfl
     rw [hz]
     exact zAb ⟨.inr rfl, _, _, rfl, trivial, rfl⟩
    have hc : (!decide (exF t.x = 0)) = false := hc
    simp only [zz] at hc
    rw [decide_eq_true hc, Bool.true_and] at hb
    repeat' first | refine zx ?_ | apply zn
    rw [h64]
    refine ⟨(i + 1), ⟨hb, by omega⟩, by omega, zAh (ad := []) (by refine ⟨?_, ?_, ?_, ?_, ?_, ?_, trivial⟩ <;> first | exact trivial | rfl | exact ⟨rfl, rfl⟩ | exact ⟨rfl, rfl, rfl⟩ | exact ⟨rfl, rfl, rfl, rfl⟩ | exact ⟨rfl, rfl, rfl, rfl, rfl⟩ | exact congrArg (fun z : Int => E.v (.int .i64 z)) (zAf (by omega) (by omega)) | (refine ⟨rfl, ?_⟩; repeat' first | exact trivial | rfl | apply And.intro)) zm⟩
   exact absurd (show decide (t.a = 3) = false from hc) (by rw [decide_eq_true ha]; decide)
  simp only [zz] at hc
  (try simp only [it0 t] at hc)
  (try simp only [zz] at hc)
  have h3n := hc
  repeat' first | refine zx ?_ | fail
  refine zc (fun hc => ?_) fun hc => ?_
  ·simp only [zz] at hc
   (try simp only [it0 t] at hc)
   (try simp only [zz] at hc)
   have ha := hc
   have hib : itB t = decide (exF t.x = 0) := by
    unfold itB
    rw [decide_eq_true (show 0 <= t.a /\ t.a <= 4 by omega), Bool.true_and, if_neg (by omega)]
   rw [hib] at hb
   repeat' apply zn
   refine zAa (zzx hnt rfl ?_ (callV rfl rfl rfl rfl rfl rfl rfl hnt rfl (h4) (zzx hnt rfl ?_ (Lex.nil _)))) ?_
   ·exact zza
   ·exact zza
   refine zc (fun hc => ?_) fun hc => ?_
   ·have hc : (!decide (exF t.x = 0)) = true := hc
    simp only [zz] at hc
    rw [decide_eq_false hc, Bool.false_and] at hb
    repeat' first | refine zx ?_ | apply zn
    have hz : asB q = false := by
     unfold asB
     rw [<-hb]
     cases decide (asP q) <;> rfl
    rw [hz]
    exact zAb ⟨.inr rfl, _, _, rfl, trivial, rfl⟩
   have hc : (!decide (exF t.x = 0)) = false := hc
   simp only [zz] at hc
   rw [decide_eq_true hc, Bool.true_and] at hb
   repeat' first | refine zx ?_ | apply zn
   rw [h64]
   refine ⟨(i + 1), ⟨hb, by omega⟩, by omega, zAh (ad := []) (by refine ⟨?_, ?_, ?_, ?_, ?_, ?_, trivial⟩ <;> first | exact trivial | rfl | exact ⟨rfl, rfl⟩ | exact ⟨rfl, rfl, rfl⟩ | exact ⟨rfl, rfl, rfl, rfl⟩ | exact ⟨rfl, rfl, rfl, rfl, rfl⟩ | exact congrArg (fun z : Int => E.v (.int .i64 z)) (zAf (by omega) (by omega)) | (refine ⟨rfl, ?_⟩; repeat' first | exact trivial | rfl | apply And.intro)) zm⟩
  simp only [zz] at hc
  (try simp only [it0 t] at hc)
  (try simp only [zz] at hc)
  have hib : itB t = false := by
   unfold itB
   rw [decide_eq_false (show ¬ (0 <= t.a /\ t.a <= 4) by omega), Bool.false_and]
  rw [hib, Bool.false_and] at hb
  repeat' first | refine zx ?_ | apply zn
  have hz : asB q = false := by
   unfold asB
   rw [<-hb]
   cases decide (asP q) <;> rfl
  rw [hz]
  exact zAb ⟨.inr rfl, _, _, rfl, trivial, rfl⟩
 simp only [zz] at hc
 (try simp only [l4] at hc)
 (try simp only [zz] at hc)
 refine zAt ?_
 rw [List.drop_eq_nil_of_le (by omega), List.all_nil] at hb
 repeat' first | refine zx ?_ | apply zn
 repeat' apply zn
 refine zAx (σ := Nat) (fun i => St.of [(1, .one (.ptr 1 0 0)), (63, .one (.e (.sl (q.ss.map zC3)))), (64, .one (.e (eI ((q.ss.map zC3).length : Int)))), (65, .one (.e (eI (i : Int)))), ((1000000 + 5), .one (.eptr fsE)), ((1000000 + 6), .one (.eptr acE))] [(1, ⟨0, .box (.es (zDL q)), 0⟩)]) (fun i => (q.ss.drop i).all srB = q.ss.all srB /\ i <= q.ss.length) (fun i => q.ss.length - i) (0) (zAh (ad := []) (by refine ⟨?_, ?_, ?_, ?_, ?_, ?_, trivial⟩ <;> first | exact trivial | rfl | exact ⟨rfl, rfl⟩ | exact ⟨rfl, rfl, rfl⟩ | exact ⟨rfl, rfl, rfl, rfl⟩ | exact ⟨rfl, rfl, rfl, rfl, rfl⟩ | exact congrArg (fun z : Int => E.v (.int .i64 z)) (zAf (by omega) (by omega)) | (refine ⟨rfl, ?_⟩; repeat' first | exact trivial | rfl | apply And.intro)) zm) ⟨rfl, Nat.zero_le _⟩ ?_
 rintro i ⟨hs, il⟩
 repeat' first | refine zx ?_ | fail
 refine zc (fun hc => ?_) fun hc => ?_
 ·simp only [zz] at hc
  (try simp only [l5] at hc)
  (try simp only [zz] at hc)
  have hlt : i < q.ss.length := by omega
  have hg := zN7 q.ss i hlt
  rw [zAS (d := zPN) hlt, List.all_cons] at hs
  refine zy ?_ ?_
  ·rw [Int.toNat_natCast, hg]
   exact zza
  rw [Int.toNat_natCast, hg]
  generalize q.ss.getD i zPN = s at *
  repeat' first | refine zx ?_ | fail
  refine zc (fun hc => ?_) fun hc => ?_
  ·have hc : decide (s.i < 0) = true := hc
   simp only [zz] at hc
   have hz : asB q = false := by
    unfold asB
    rw [<-hs, show srB s = false from decide_eq_false (by omega), Bool.false_and, Bool.and_false]
    rfl
   rw [hz]
   repeat' first | refine zx ?_ | apply zn
   exact zAb ⟨.inr rfl, _, _, rfl, trivial, rfl⟩
  have hc : decide (s.i < 0) = false := hc
  simp only [zz] at hc
  rw [show srB s = true from decide_eq_true (by omega), Bool.true_and] at hs
  have h64 : IntKind.i64.wrap ((i : Int) + 1) = ((i + 1 : Nat) : Int) := zAf (by omega) (by omega)
  repeat' first | refine zx ?_ | apply zn
  rw [h64]
  refine ⟨(i + 1), ⟨hs, by omega⟩, by omega, zAh (ad := []) (by refine ⟨?_, ?_, ?_, ?_, ?_, ?_, trivial⟩ <;> first | exact trivial | rfl | exact ⟨rfl, rfl⟩ | exact ⟨rfl, rfl, rfl⟩ | exact ⟨rfl, rfl, rfl, rfl⟩ | exact ⟨rfl, rfl, rfl, rfl, rfl⟩ | exact congrArg (fun z : Int => E.v (.int .i64 z)) (zAf (by omega) (by omega)) | (refine ⟨rfl, ?_⟩; repeat' first | exact trivial | rfl | apply And.intro)) zm⟩
 simp only [zz] at hc
 (try simp only [l5] at hc)
 (try simp only [zz] at hc)
 refine zAt ?_
 rw [List.drop_eq_nil_of_le (by omega), List.all_nil] at hs
 repeat' first | refine zx ?_ | apply zn
 refine zAb ⟨.inr rfl, _, _, rfl, trivial, ?_⟩
 refine congrArg (fun b => D.v (.bool b)) ?_
 show decide (0 < ((q.is.map zBP).length : Int)) = asB q
 unfold asB
 rw [l4, <-hb, <-hs, decide_eq_true hpp, Bool.true_and, Bool.true_and, Bool.true_and]
 exact decide_eq_decide.2 (by omega)
theorem zNj (q : Qry) : FnD Tryz.prog 43 [.agg (.es (zDL q))] (.v (.bool (!decide (zKu q)))) := by
 refine zD 33 Tryz.func43 fun X hnt => ?_
 have f12 : 0 + 12 <= (Cs.es (zDL q)).len := Nat.le_refl 12
 have h1 := zE7 q.w
 have l4 := zFT q.is
 have l5 := zGB q.ss
 rw [<-quW q] at h1
 refine zxa ?_
 repeat' apply zn
 refine zAa (zzx hnt rfl ?_ (callG rfl rfl rfl rfl rfl rfl hnt rfl (fun hq => ?_) (fun hq => h1) (zzx hnt rfl ?_ (Lex.nil _)))) ?_
 ·exact zza
 ·exact zza
 ·exact zza
 repeat' apply zn
 refine zAb ⟨.inr rfl, _, _, rfl, trivial, ?_⟩
 show D.v (.bool (bif bif bif bif bif decide (((q.is.map zBP).length : Int) = 0) then decide (noC q.w) else false then zA1 (zA5 q.g) ⟨#[]⟩ else false then decide (((q.ss.map zC3).length : Int) = 0) else false then !q.c else false then decide (q.m = 0) else false)) = _
 rw [zAD, l4, l5]
 congr 2
 rw [Bool.eq_iff_iff]
 simp only [zz]
 unfold zKu
 cases q.c <;> by_cases k1 : noC q.w <;> simp [k1] <;> omega
theorem zK2 (q : Qry) (h : q.ok) (hgn : q.g.length <= maxLen) : FnG Tryz.prog 41 gK [.agg (.es (zDL q))] (.v (.bool (asB q))) := by
 refine zG 96 Tryz.func41 fun X hnt => ?_
 have f12 : 0 + 12 <= (Cs.es (zDL q)).len := Nat.le_refl 12
 have h1 := zGM q.w h.w
 have h2 := zEg q.g hgn
 have hli := h.li
 have hls := h.ls
 unfold maxLen at hli hls
 have l4 := zFT q.is
 have l5 := zGB q.ss
 rw [<-quW q] at h1
 refine zxa ?_
 repeat' apply zn
 refine zAa (zzx hnt rfl ?_ (callVG rfl rfl rfl rfl rfl rfl hnt rfl (fun hq => ?_) rfl (fun hq => h1) (zzx hnt rfl ?_ (callG rfl rfl rfl rfl rfl rfl hnt rfl (fun hq => ?_) (fun hq => h2) (zzx hnt rfl ?_ (Lex.nil _)))))) ?_
 ·exact zza
 ·exact zza
 ·exact zza
 ·exact zza
 ·exact zza
 have hP : (bif bif bif bif decide (0 < ((q.is.map zBP).length : Int)) then decide (cdP q.w) else false then (bif zA1 (zA5 q.g) ⟨#[]⟩ then true else decide (zC2 q.g)) else false then decide (0 <= q.m) else false then (bif q.c then true else decide (q.m = 0)) else false) = (decide (asP q) && decide (0 < q.is.length)) := by
  rw [zAD, l4, Bool.eq_iff_iff, Bool.and_eq_true]
  simp only [zz]
  unfold asP
  cases q.c <;> by_cases k1 : cdP q.w <;> by_cases k2 : q.g.length = 0 <;> by_cases k3 : zC2 q.g <;> simp [k1, k2, k3] <;> omega
 repeat' first | refine zx ?_ | apply zn
 repeat' apply zn
 refine zAx (σ := Nat × Bool) (fun y => St.of [(1, .one (.ptr 1 0 0)), (3, .v (.bool y.2)), (42, .one (.e (.sl (q.is.map zBP)))), (43, .one (.e (eI ((q.is.map zBP).length : Int)))), (44, .one (.e (eI (y.1 : Int)))), ((1000000 + 5), .one (.eptr fsE)), ((1000000 + 6), .one (.eptr acE))] [(1, ⟨0, .box (.es (zDL q)), 0⟩)]) (fun y => (y.2 && (q.is.drop y.1).all itB) = ((decide (asP q) && decide (0 < q.is.length)) && q.is.all itB) /\ y.1 <= q.is.length) (fun y => q.is.length - y.1) ((0, bif bif bif bif decide (0 < ((q.is.map zBP).length : Int)) then decide (cdP q.w) else false then (bif zA1 (zA5 q.g) ⟨#[]⟩ then true else decide (zC2 q.g)) else false then decide (0 <= q.m) else false then (bif q.c then true else decide (q.m = 0)) else false)) (zAh (ad := []) (by refine ⟨?_, ?_, ?_, ?_, ?_, ?_, ?_, trivial⟩ <;> first | exact trivial | rfl | exact ⟨rfl, rfl⟩ | exact ⟨rfl, rfl, rfl⟩ | exact ⟨rfl, rfl, rfl, rfl⟩ | exact ⟨rfl, rfl, rfl, rfl, rfl⟩ | exact congrArg (fun z : Int => E.v (.int .i64 z)) (zAf (by omega) (by omega)) | (refine ⟨rfl, ?_⟩; repeat' first | exact trivial | rfl | apply And.intro)) zm) ⟨by rw [hP]; rfl, Nat.zero_le _⟩ ?_
 clear hP
 rintro ⟨i, b⟩ ⟨hb, il⟩
 dsimp only at hb il ⊢
 repeat' first | refine zx ?_ | fail
 refine zc (fun hc => ?_) fun hc => ?_
 ·simp only [zz] at hc
  (try simp only [l4] at hc)
  (try simp only [zz] at hc)
  have hlt : i < q.is.length := by omega
  have hg := zJW q.is i hlt
  have hok := h.is _ (zQA (d := zMk) hlt)
  rw [zAS (d := zMk) hlt, List.all_cons, <-Bool.and_assoc] at hb
  refine zy ?_ ?_
  ·rw [Int.toNat_natCast, hg]
   exact zza
  rw [Int.toNat_natCast, hg]
  generalize q.is.getD i zMk = t at *
  refine zAq (s' := St.of [(1, .one (.ptr 1 0 0)), (3, .v (.bool b)), (5, .one (.ptr 5 0 0)), (42, .one (.e (.sl (q.is.map zBP)))), (43, .one (.e (eI ((q.is.map zBP).length : Int)))), (44, .one (.e (eI (i : Int)))), ((1000000 + 5), .one (.eptr fsE)), ((1000000 + 6), .one (.eptr acE))] [(1, ⟨0, .box (.es (zDL q)), 0⟩), (5, ⟨0, .box (.es (zBP t)), 0⟩)]) (zAh (ad := []) (by refine ⟨?_, ?_, ?_, ?_, ?_, ?_, ?_, ?_, trivial⟩ <;> first | exact trivial | rfl | exact ⟨rfl, rfl⟩ | exact ⟨rfl, rfl, rfl⟩ | exact ⟨rfl, rfl, rfl, rfl⟩ | exact ⟨rfl, rfl, rfl, rfl, rfl⟩ | exact congrArg (fun z : Int => E.v (.int .i64 z)) (zAf (by omega) (by omega)) | (refine ⟨rfl, ?_⟩; repeat' first | exact trivial | rfl | apply And.intro)) zm) ?_
  have h3 := zE7 t.x
  have h4 := zD5 t.x hok
  rw [<-itX t] at h3 h4
  repeat' apply zn
  refine zAa (zzx hnt rfl ?_ (callG rfl rfl rfl rfl rfl rfl hnt rfl (fun hq => ?_) (fun hq => h3) (zzx hnt rfl ?_ (callVG rfl rfl rfl rfl rfl rfl hnt rfl (fun hq => ?_) rfl (fun hq => h4) (zzx hnt rfl ?_ (Lex.nil _)))))) ?_
  ·exact zza
  ·exact zza
  ·exact zza
  ·exact zza
  ·exact zza
  have hib : (bif bif bif b then decide (0 <= t.a) else false then decide (t.a <= 4) else false then (bif (bif decide (t.a = 1) then decide (noC t.x) else false) then true else (bif !decide (t.a = 1) then decide (exF t.x = 0) else false)) else false) = (b && itB t) := by
   unfold itB
   rw [Bool.eq_iff_iff, Bool.and_eq_true]
   simp only [zz]
   by_cases k1 : t.a = 1 <;> by_cases k2 : noC t.x <;> by_cases k3 : exF t.x = 0 <;> cases b <;> simp [k1, k2, k3]
  have h64 : IntKind.i64.wrap ((i : Int) + 1) = ((i + 1 : Nat) : Int) := zAf (by omega) (by omega)
  repeat' first | refine zx ?_ | apply zn
  rw [h64]
  refine ⟨(i + 1, bif bif bif b then decide (0 <= t.a) else false then decide (t.a <= 4) else false then (bif (bif decide (t.a = 1) then decide (noC t.x) else false) then true else (bif !decide (t.a = 1) then decide (exF t.x = 0) else false)) else false), ⟨by rw [hib]; exact hb, by dsimp only; omega⟩, by dsimp only; omega, zAh (ad := []) (by refine ⟨?_, ?_, ?_, ?_, ?_, ?_, ?_, trivial⟩ <;> first | exact trivial | rfl | exact ⟨rfl, rfl⟩ | exact ⟨rfl, rfl, rfl⟩ | exact ⟨rfl, rfl, rfl, rfl⟩ | exact ⟨rfl, rfl, rfl, rfl, rfl⟩ | exact congrArg (fun z : Int => E.v (.int .i64 z)) (zAf (by omega) (by omega)) | (refine ⟨rfl, ?_⟩; repeat' first | exact trivial | rfl | apply And.intro)) zm⟩
 simp only [zz] at hc
 (try simp only [l4] at hc)
 (try simp only [zz] at hc)
 refine zAt ?_
 rw [List.drop_eq_nil_of_le (by omega), List.all_nil, Bool.and_true] at hb
 repeat' first | refine zx ?_ | apply zn
 repeat' apply zn
 refine zAx (σ := Nat × Bool) (fun y => St.of [(3, .v (.bool y.2)), (82, .one (.e (.sl (q.ss.map zC3)))), (83, .one (.e (eI ((q.ss.map zC3).length : Int)))), (84, .one (.e (eI (y.1 : Int)))), ((1000000 + 5), .one (.eptr fsE)), ((1000000 + 6), .one (.eptr acE))] []) (fun y => (y.2 && (q.ss.drop y.1).all srB) = (((decide (asP q) && decide (0 < q.is.length)) && q.is.all itB) && q.ss.all srB) /\ y.1 <= q.ss.length) (fun y => q.ss.length - y.1) ((0, b)) (zAh (ad := []) (by refine ⟨?_, ?_, ?_, ?_, ?_, ?_, trivial⟩ <;> first | exact trivial | rfl | exact ⟨rfl, rfl⟩ | exact ⟨rfl, rfl, rfl⟩ | exact ⟨rfl, rfl, rfl, rfl⟩ | exact ⟨rfl, rfl, rfl, rfl, rfl⟩ | exact congrArg (fun z : Int => E.v (.int .i64 z)) (zAf (by omega) (by omega)) | (refine ⟨rfl, ?_⟩; repeat' first | exact trivial | rfl | apply And.intro)) trivial) ⟨by rw [hb]; rfl, Nat.zero_le _⟩ ?_
 rintro ⟨i, b⟩ ⟨hb, il⟩
 dsimp only at hb il ⊢
 repeat' first | refine zx ?_ | fail
 refine zc (fun hc => ?_) fun hc => ?_
 ·simp only [zz] at hc
  (try simp only [l5] at hc)
  (try simp only [zz] at hc)
  have hlt : i < q.ss.length := by omega
  have hg := zN7 q.ss i hlt
  rw [zAS (d := zPN) hlt, List.all_cons, <-Bool.and_assoc] at hb
  refine zy ?_ ?_
  ·rw [Int.toNat_natCast, hg]
   exact zza
  rw [Int.toNat_natCast, hg]
  generalize q.ss.getD i zPN = s at *
  have h64 : IntKind.i64.wrap ((i : Int) + 1) = ((i + 1 : Nat) : Int) := zAf (by omega) (by omega)
  repeat' first | refine zx ?_ | apply zn
  rw [h64]
  refine ⟨(i + 1, bif b then decide (0 <= s.i) else false), ⟨by dsimp only; rw [zCn]; exact hb, by dsimp only; omega⟩, by dsimp only; omega, zAh (ad := []) (by refine ⟨?_, ?_, ?_, ?_, ?_, ?_, trivial⟩ <;> first | exact trivial | rfl | exact ⟨rfl, rfl⟩ | exact ⟨rfl, rfl, rfl⟩ | exact ⟨rfl, rfl, rfl, rfl⟩ | exact ⟨rfl, rfl, rfl, rfl, rfl⟩ | exact congrArg (fun z : Int => E.v (.int .i64 z)) (zAf (by omega) (by omega)) | (refine ⟨rfl, ?_⟩; repeat' first | exact trivial | rfl | apply And.intro)) trivial⟩
 simp only [zz] at hc
 (try simp only [l5] at hc)
 (try simp only [zz] at hc)
 refine zAt ?_
 rw [List.drop_eq_nil_of_le (by omega), List.all_nil, Bool.and_true] at hb
 repeat' first | refine zx ?_ | apply zn
 refine zAb ⟨.inr rfl, _, _, rfl, trivial, ?_⟩
 refine congrArg (fun b => D.v (.bool b)) ?_
 show b = asB q
 rw [hb]
 unfold asB
 cases decide (asP q) <;> cases q.is.all itB <;> cases q.ss.all srB <;> cases decide (0 < q.is.length) <;> rfl
def eKs (l : List Int) : E := .sl (l.map fun n => [eI n])
theorem zWa (l : List Int) (i : Nat) (h : i < l.length) : (l.map fun n => [eI n]).getD i [] = [eI (l.getD i 0)] := by
 rw [List.getD_eq_getElem?_getD, List.getElem?_map, List.getElem?_eq_getElem h, List.getD_eq_getElem?_getD, List.getElem?_eq_getElem h]
 rfl
def isB (k : Int) (l : List Int) : Bool := l.any fun n => decide (n = k)
theorem zJX (c : Cmd) (l : List Int) : FnD Tryz.prog 58 [.one (.e (eKs l)), .one (.eptr (zBC c))] (.v (.bool (isB c.k l))) := by
 refine FnD.len ⟨_, _, Tryz.func58, rfl, by kernel_rfl⟩ 0 rfl fun hl0 => ?_
 refine zD 17 Tryz.func58 fun X hnt => ?_
 have hl : l.length <= maxLen := by have h := hl0; rwa [List.length_map] at h
 have f29 : 0 + 29 <= (Cs.es (zBC c)).len := Nat.le_refl 29
 have hll : (l.map fun n => [eI n]).length = l.length := List.length_map ..
 unfold maxLen at hl
 repeat' first | refine zx ?_ | apply zn
 repeat' apply zn
 refine zAx (σ := Nat) (fun i => St.of [(1, .one (.eptr (zBC c))), (6, .one (.e (eKs l))), (7, .one (.e (eI ((l.map fun n => [eI n]).length : Int)))), (8, .one (.e (eI (i : Int))))] []) (fun i => isB c.k (l.drop i) = isB c.k l /\ i <= l.length) (fun i => l.length - i) (0) (zAh (ad := []) (by refine ⟨?_, ?_, ?_, ?_, trivial⟩ <;> first | exact trivial | rfl | exact ⟨rfl, rfl⟩ | exact ⟨rfl, rfl, rfl⟩ | exact ⟨rfl, rfl, rfl, rfl⟩ | exact ⟨rfl, rfl, rfl, rfl, rfl⟩ | exact congrArg (fun z : Int => E.v (.int .i64 z)) (zAf (by omega) (by omega)) | (refine ⟨rfl, ?_⟩; repeat' first | exact trivial | rfl | apply And.intro)) trivial) ⟨rfl, Nat.zero_le _⟩ ?_
 rintro i ⟨hb, il⟩
 repeat' first | refine zx ?_ | fail
 refine zc (fun hc => ?_) fun hc => ?_
 ·simp only [zz] at hc
  (try simp only [hll] at hc)
  (try simp only [zz] at hc)
  have hlt : i < l.length := by omega
  have hg := zWa l i hlt
  have hb : (decide (l.getD i 0 = c.k) || isB c.k (l.drop (i + 1))) = isB c.k l := by
   rw [<-hb, zAS (d := 0) hlt]
   unfold isB
   rw [List.any_cons]
  have h64 : IntKind.i64.wrap ((i : Int) + 1) = ((i + 1 : Nat) : Int) := zAf (by omega) (by omega)
  refine zy ?_ ?_
  ·rw [Int.toNat_natCast, hg]
   exact zza
  rw [Int.toNat_natCast, hg]
  repeat' first | refine zx ?_ | fail
  refine zc (fun hc => ?_) fun hc => ?_
  ·have hc : decide (l.getD i 0 = c.k) = true := hc
   rw [hc, Bool.true_or] at hb
   rw [<-hb]
   repeat' first | refine zx ?_ | apply zn
   exact zAb ⟨.inr rfl, _, _, rfl, trivial, rfl⟩
  have hc : decide (l.getD i 0 = c.k) = false := hc
  rw [hc, Bool.false_or] at hb
  repeat' first | refine zx ?_ | apply zn
  rw [h64]
  refine ⟨(i + 1), ⟨hb, by omega⟩, by omega, zAh (ad := []) (by refine ⟨?_, ?_, ?_, ?_, trivial⟩ <;> first | exact trivial | rfl | exact ⟨rfl, rfl⟩ | exact ⟨rfl, rfl, rfl⟩ | exact ⟨rfl, rfl, rfl, rfl⟩ | exact ⟨rfl, rfl, rfl, rfl, rfl⟩ | exact congrArg (fun z : Int => E.v (.int .i64 z)) (zAf (by omega) (by omega)) | (refine ⟨rfl, ?_⟩; repeat' first | exact trivial | rfl | apply And.intro)) trivial⟩
 simp only [zz] at hc
 (try simp only [hll] at hc)
 (try simp only [zz] at hc)
 refine zAt ?_
 rw [List.drop_eq_nil_of_le (by omega)] at hb
 rw [<-hb]
 repeat' first | refine zx ?_ | apply zn
 exact zAb ⟨.inr rfl, _, _, rfl, trivial, rfl⟩
theorem zXs (k a : Int) : isB k [a] = decide (k = a) := by
 unfold isB
 rw [List.any_cons, List.any_nil, Bool.or_false]
 exact decide_eq_decide.2 ⟨Eq.symm, Eq.symm⟩
theorem zXr (k a b : Int) : isB k [a, b] = (decide (k = a) || decide (k = b)) := by
 unfold isB
 rw [List.any_cons, List.any_cons, List.any_nil, Bool.or_false]
 congr 1 <;> exact decide_eq_decide.2 ⟨Eq.symm, Eq.symm⟩
def sbP (c : Cmd) : Prop :=
 (((((((((c.k ≠ 1 \/ c.ow = 0) /\ (¬ (c.k = 1 \/ c.k = 5) \/ c.dr = 0)) /\ (c.k = 1 \/ c.cs.length = 0)) /\ (c.k = 2 \/ c.ro.length = 0)) /\ (c.k = 3 \/ c.ss.length = 0)) /\ ((c.k = 3 \/ c.k = 4) \/ noC c.wh)) /\ (c.k = 5 \/ ¬ zKu c.q)) /\ ((c.k = 6 \/ c.k = 7) \/ (c.to = 0 /\ c.rt = 0))) /\ (c.k = 6 \/ c.op = false))
instance (c : Cmd) : Decidable (sbP c) := inferInstanceAs (Decidable (_ /\ _))
theorem zVa {b : Bool} {p : Prop} [Decidable p] (h : b = true ↔ p) : b = decide p := zDE h
theorem zP9 (c : Cmd) : FnD Tryz.prog 19 [.agg (.es (zBC c))] (.v (.bool (decide (sbP c)))) := by
 refine zD 136 Tryz.func19 fun X hnt => ?_
 have f29 : 0 + 29 <= (Cs.es (zBC c)).len := Nat.le_refl 29
 have l1 := zFL c.cs
 have l2 := zHH c.ro
 have l3 := zGD c.ss
 have l4 := zFT c.q.is
 have l5 := zGB c.q.ss
 have hw := zE0 c.wh
 have hqw := zE0 c.q.w
 have i1 := zJX c [1]
 have i15 := zJX c [1, 5]
 have i2 := zJX c [2]
 have i3 := zJX c [3]
 have i34 := zJX c [3, 4]
 have i5 := zJX c [5]
 have i67 := zJX c [6, 7]
 have i6 := zJX c [6]
 rw [zXs] at i1 i2 i3 i5 i6
 rw [zXr] at i15 i34 i67
 rw [<-cmW c] at hw
 refine zxa ?_
 refine zxa ?_
 refine zxa ?_
 refine zAq (s' := St.of [(1, .one (.ptr 1 0 0)), (3, .one (.clo 58 [(1, 0, 0)])), (4, .one (.ptr 4 0 0))] [(1, ⟨0, .box (.es (zBC c)), 0⟩), (4, ⟨0, .box (.es (zDL c.q)), 0⟩)]) (zAh (ad := []) (by refine ⟨?_, ?_, ?_, trivial⟩ <;> first | exact trivial | rfl | exact ⟨rfl, rfl⟩ | exact ⟨rfl, rfl, rfl⟩ | exact ⟨rfl, rfl, rfl, rfl⟩ | exact ⟨rfl, rfl, rfl, rfl, rfl⟩ | exact congrArg (fun z : Int => E.v (.int .i64 z)) (zAf (by omega) (by omega)) | (refine ⟨rfl, ?_⟩; repeat' first | exact trivial | rfl | apply And.intro)) zm) ?_
 rw [<-quW c.q] at hqw
 repeat' apply zn
 refine zAa (zzx hnt rfl ?_ (callG rfl rfl rfl rfl rfl rfl hnt rfl (fun hq => ?_) (fun hq => hqw) (zzx hnt rfl ?_ (Lex.nil _)))) ?_
 ·exact zza
 ·exact zza
 ·exact zza
 repeat' apply zn
 refine zAa (zzx hnt rfl ?_ (callC rfl rfl rfl rfl rfl rfl rfl hnt (i1) (zzx hnt rfl ?_ (zFY rfl rfl rfl rfl rfl rfl rfl hnt rfl (fun hq => ?_) (fun hq => i15) (zzx hnt rfl ?_ (zFY rfl rfl rfl rfl rfl rfl rfl hnt rfl (fun hq => ?_) (fun hq => i1) (zzx hnt rfl ?_ (zFY rfl rfl rfl rfl rfl rfl rfl hnt rfl (fun hq => ?_) (fun hq => i2) (zzx hnt rfl ?_ (zFY rfl rfl rfl rfl rfl rfl rfl hnt rfl (fun hq => ?_) (fun hq => i3) (zzx hnt rfl ?_ (zFY rfl rfl rfl rfl rfl rfl rfl hnt rfl (fun hq => ?_) (fun hq => i34) (zzx hnt rfl ?_ (callG rfl rfl rfl rfl rfl rfl hnt rfl (fun hq => ?_) (fun hq => hw) (zzx hnt rfl ?_ (zFY rfl rfl rfl rfl rfl rfl rfl hnt rfl (fun hq => ?_) (fun hq => i5) (zzx hnt rfl ?_ (zFY rfl rfl rfl rfl rfl rfl rfl hnt rfl (fun hq => ?_) (fun hq => i67) (zzx hnt rfl ?_ (zFY rfl rfl rfl rfl rfl rfl rfl hnt rfl (fun hq => ?_) (fun hq => i6) (zzx hnt rfl ?_ (Lex.nil _)))))))))))))))))))))) ?_
 ·exact zza
 ·exact zza
 ·exact zza
 ·exact zza
 ·exact zza
 ·exact zza
 ·exact zza
 ·exact zza
 ·exact zza
 ·exact zza
 ·exact zza
 ·exact zza
 ·exact zza
 ·exact zza
 ·exact zza
 ·exact zza
 ·exact zza
 ·exact zza
 ·exact zza
 ·exact zza
 repeat' apply zn
 refine zAb ⟨.inr rfl, _, _, rfl, trivial, ?_⟩
 refine congrArg (fun b => D.v (.bool b)) (zVa ?_)
 have e1 : ((zBC c).getD (0 + 1) E.dflt).int = c.ow := rfl
 have e3 : ((zBC c).getD (0 + 3) E.dflt).int = c.dr := rfl
 have e26 : ((zBC c).getD (0 + 26) E.dflt).int = c.to := rfl
 have e27 : ((zBC c).getD (0 + 27) E.dflt).int = c.rt := rfl
 have e28 : ((zBC c).getD (0 + 28) E.dflt).bool = c.op := rfl
 have q0 : ((zDL c.q).getD (0 + 0) E.dflt).xs = c.q.is.map zBP := rfl
 have q8 : ((zDL c.q).getD (0 + 8) E.dflt).str = zA5 c.q.g := rfl
 have q9 : ((zDL c.q).getD (0 + 9) E.dflt).xs = c.q.ss.map zC3 := rfl
 have q10 : ((zDL c.q).getD (0 + 10) E.dflt).bool = c.q.c := rfl
 have q11 : ((zDL c.q).getD (0 + 11) E.dflt).int = c.q.m := rfl
 simp only [e1, e3, cm4, cm5, cm6, e26, e27, e28, q0, q8, q9, q10, q11, l1, l2, l3, l4, l5, zEt, zAr, zAs, zGp, zBm, zBp, decide_eq_true_eq, decide_eq_false_iff_not, zAD, Bool.or_eq_true, Bool.or_eq_false_iff]
 unfold sbP zKu
 cases c.q.c <;> cases c.op <;> by_cases k1 : noC c.wh <;> by_cases k2 : noC c.q.w <;> simp only [k1, k2, not_true_eq_false, not_false_eq_true, true_and, and_true, false_and, and_false, or_true, true_or, or_false, false_or, reduceCtorEq] <;> omega
def clB (k : Colm) : Bool := decide (zC2 k.n /\ 1 <= k.k /\ k.k <= 4)
def vlB (v : Val) : Bool := decide (chk v = 0 /\ v.i ≠ -9223372036854775808)
def stB (s : CSet) : Bool := decide (zC2 s.c /\ exF s.x = 0)
def bdB (c : Cmd) : Bool :=
 if c.k = 1 then c.cs.all clB && decide (0 < c.cs.length) else
 if c.k = 2 then c.ro.all vlB && decide (0 < c.ro.length) else
 if c.k = 3 then c.ss.all stB && (decide (0 < c.ss.length) && decide (cdP c.wh)) else
 if c.k = 4 then decide (cdP c.wh) else
 if c.k = 5 then asB c.q else decide (c.rt = 1 \/ c.rt = 2)
def hdP (c : Cmd) : Prop := ((zC2 c.tb /\ 0 <= c.ow) /\ 0 <= c.dr) /\ 0 <= c.to
instance (c : Cmd) : Decidable (hdP c) := inferInstanceAs (Decidable (_ /\ _))
def fmB (c : Cmd) : Bool := decide (hdP c) && bdB c
theorem zII {c : Cmd} (h : hdP c) : fmB c = bdB c := by unfold fmB; rw [decide_eq_true h, Bool.true_and]
theorem cm0 (c : Cmd) : ((zBC c).getD (0 + 0) E.dflt).int = c.k := rfl
theorem zOf (l : List Val) (i : Nat) (h : i < l.length) : (l.map zBw).getD i [] = zBw (l.getD i zBD) := zRx l i h
theorem zO5 (c : Cmd) (h : c.ok) (z1 : c.cs.length <= 5) (z2 : c.ro.length <= 5) (z3 : c.ss.length <= 4) : FnG Tryz.prog 20 gK [.agg (.es (zBC c))] (.v (.bool (fmB c))) := by
 refine zG 127 Tryz.func20 fun X hnt => ?_
 have f29 : 0 + 29 <= (Cs.es (zBC c)).len := Nat.le_refl 29
 have l1 := zFL c.cs
 have l2 := zHH c.ro
 have l3 := zGD c.ss
 have hn := zIq c.tb h.tb
 refine zxa ?_
 repeat' apply zn
 refine zAa (zzx hnt rfl ?_ (callV rfl rfl rfl rfl rfl rfl rfl hnt rfl (hn) (zzx hnt rfl ?_ (Lex.nil _)))) ?_
 ·exact zza
 ·exact zza
 have hP : (bif bif bif !decide (zC2 c.tb) then true else decide (c.ow < 0) then true else decide (c.dr < 0) then true else decide (c.to < 0)) = !decide (hdP c) := by
  rw [Bool.eq_iff_iff]
  simp only [zz]
  unfold hdP
  by_cases k : zC2 c.tb <;> simp only [k, not_true_eq_false, not_false_eq_true, true_and, false_or, true_or, false_and] <;> omega
 refine zc (fun hc => ?_) fun hc => ?_
 ·have hc : (bif bif bif !decide (zC2 c.tb) then true else decide (c.ow < 0) then true else decide (c.dr < 0) then true else decide (c.to < 0)) = true := hc
  rw [hP] at hc
  simp only [zz] at hc
  have hz : fmB c = false := by unfold fmB; rw [decide_eq_false hc]; rfl
  rw [hz]
  repeat' first | refine zx ?_ | apply zn
  exact zAb ⟨.inr rfl, _, _, rfl, trivial, rfl⟩
 have hc : (bif bif bif !decide (zC2 c.tb) then true else decide (c.ow < 0) then true else decide (c.dr < 0) then true else decide (c.to < 0)) = false := hc
 rw [hP] at hc
 simp only [zz] at hc
 have hh := hc
 clear hc hP
 repeat' first | refine zx ?_ | fail
 refine zc (fun hc => ?_) fun hc => ?_
 ·simp only [zz] at hc
  (try simp only [cm0 c] at hc)
  (try simp only [zz] at hc)
  have hbd : bdB c = (c.cs.all clB && decide (0 < c.cs.length)) := by unfold bdB; rw [if_pos hc]
  repeat' first | refine zx ?_ | apply zn
  repeat' apply zn
  refine zAx (σ := Nat) (fun i => St.of [(1, .one (.ptr 1 0 0)), (33, .one (.e (.sl (c.cs.map zCm)))), (34, .one (.e (eI ((c.cs.map zCm).length : Int)))), (35, .one (.e (eI (i : Int)))), ((1000000 + 5), .one (.eptr fsE)), ((1000000 + 6), .one (.eptr acE))] [(1, ⟨0, .box (.es (zBC c)), 0⟩)]) (fun i => (c.cs.drop i).all clB = c.cs.all clB /\ i <= c.cs.length) (fun i => c.cs.length - i) (0) (zAh (ad := []) (by refine ⟨?_, ?_, ?_, ?_, ?_, ?_, trivial⟩ <;> first | exact trivial | rfl | exact ⟨rfl, rfl⟩ | exact ⟨rfl, rfl, rfl⟩ | exact ⟨rfl, rfl, rfl, rfl⟩ | exact ⟨rfl, rfl, rfl, rfl, rfl⟩ | exact congrArg (fun z : Int => E.v (.int .i64 z)) (zAf (by omega) (by omega)) | (refine ⟨rfl, ?_⟩; repeat' first | exact trivial | rfl | apply And.intro)) zm) ⟨rfl, Nat.zero_le _⟩ ?_
  rintro i ⟨hb, il⟩
  repeat' first | refine zx ?_ | fail
  refine zc (fun hc => ?_) fun hc => ?_
  ·simp only [zz] at hc
   (try simp only [l1] at hc)
   (try simp only [zz] at hc)
   have hlt : i < c.cs.length := by omega
   have hg := zLp c.cs i hlt
   have hok := h.cs _ (zQA (d := zPR) hlt)
   rw [zAS (d := zPR) hlt, List.all_cons] at hb
   refine zy ?_ ?_
   ·rw [Int.toNat_natCast, hg]
    exact zza
   rw [Int.toNat_natCast, hg]
   generalize c.cs.getD i zPR = k at *
   refine zAq (s' := St.of [(1, .one (.ptr 1 0 0)), (4, .one (.ptr 4 0 0)), (33, .one (.e (.sl (c.cs.map zCm)))), (34, .one (.e (eI ((c.cs.map zCm).length : Int)))), (35, .one (.e (eI (i : Int)))), ((1000000 + 5), .one (.eptr fsE)), ((1000000 + 6), .one (.eptr acE))] [(1, ⟨0, .box (.es (zBC c)), 0⟩), (4, ⟨0, .box (.es (zCm k)), 0⟩)]) (zAh (ad := []) (by refine ⟨?_, ?_, ?_, ?_, ?_, ?_, ?_, trivial⟩ <;> first | exact trivial | rfl | exact ⟨rfl, rfl⟩ | exact ⟨rfl, rfl, rfl⟩ | exact ⟨rfl, rfl, rfl, rfl⟩ | exact ⟨rfl, rfl, rfl, rfl, rfl⟩ | exact congrArg (fun z : Int => E.v (.int .i64 z)) (zAf (by omega) (by omega)) | (refine ⟨rfl, ?_⟩; repeat' first | exact trivial | rfl | apply And.intro)) zm) ?_
   have h3 := zIq k.n hok
   have h64 : IntKind.i64.wrap ((i : Int) + 1) = ((i + 1 : Nat) : Int) := zAf (by omega) (by omega)
   repeat' apply zn
   refine zAa (zzx hnt rfl ?_ (callV rfl rfl rfl rfl rfl rfl rfl hnt rfl (h3) (zzx hnt rfl ?_ (Lex.nil _)))) ?_
   ·exact zza
   ·exact zza
   have hP : (bif bif !decide (zC2 k.n) then true else decide (k.k < 1) then true else decide (4 < k.k)) = !clB k := by
    unfold clB
    rw [Bool.eq_iff_iff]
    simp only [zz]
    by_cases k : zC2 k.n <;> simp only [k, not_true_eq_false, not_false_eq_true, true_and, false_or, true_or, false_and] <;> omega
   refine zc (fun hc => ?_) fun hc => ?_
   ·have hc : (bif bif !decide (zC2 k.n) then true else decide (k.k < 1) then true else decide (4 < k.k)) = true := hc
    rw [hP, Bool.not_eq_true'] at hc
    rw [hc, Bool.false_and] at hb
    repeat' first | refine zx ?_ | apply zn
    rw [zII hh, hbd, <-hb, Bool.false_and]
    exact zAb ⟨.inr rfl, _, _, rfl, trivial, rfl⟩
   have hc : (bif bif !decide (zC2 k.n) then true else decide (k.k < 1) then true else decide (4 < k.k)) = false := hc
   rw [hP, Bool.not_eq_false'] at hc
   rw [hc, Bool.true_and] at hb
   repeat' first | refine zx ?_ | apply zn
   rw [h64]
   refine ⟨(i + 1), ⟨hb, by omega⟩, by omega, zAh (ad := []) (by refine ⟨?_, ?_, ?_, ?_, ?_, ?_, trivial⟩ <;> first | exact trivial | rfl | exact ⟨rfl, rfl⟩ | exact ⟨rfl, rfl, rfl⟩ | exact ⟨rfl, rfl, rfl, rfl⟩ | exact ⟨rfl, rfl, rfl, rfl, rfl⟩ | exact congrArg (fun z : Int => E.v (.int .i64 z)) (zAf (by omega) (by omega)) | (refine ⟨rfl, ?_⟩; repeat' first | exact trivial | rfl | apply And.intro)) zm⟩
  simp only [zz] at hc
  (try simp only [l1] at hc)
  (try simp only [zz] at hc)
  refine zAt ?_
  rw [List.drop_eq_nil_of_le (by omega), List.all_nil] at hb
  repeat' first | refine zx ?_ | apply zn
  refine zAb ⟨.inr rfl, _, _, rfl, trivial, ?_⟩
  refine congrArg (fun b => D.v (.bool b)) ?_
  show decide (0 < ((c.cs.map zCm).length : Int)) = _
  rw [zII hh, hbd, <-hb, l1, Bool.true_and]
  exact decide_eq_decide.2 (by omega)
 simp only [zz] at hc
 (try simp only [cm0 c] at hc)
 (try simp only [zz] at hc)
 have n1 := hc
 repeat' first | refine zx ?_ | fail
 refine zc (fun hc => ?_) fun hc => ?_
 ·simp only [zz] at hc
  (try simp only [cm0 c] at hc)
  (try simp only [zz] at hc)
  have hbd : bdB c = (c.ro.all vlB && decide (0 < c.ro.length)) := by unfold bdB; rw [if_neg n1, if_pos hc]
  repeat' first | refine zx ?_ | apply zn
  repeat' apply zn
  refine zAx (σ := Nat) (fun i => St.of [(1, .one (.ptr 1 0 0)), (61, .one (.e (.sl (c.ro.map zBw)))), (62, .one (.e (eI ((c.ro.map zBw).length : Int)))), (63, .one (.e (eI (i : Int)))), ((1000000 + 5), .one (.eptr fsE)), ((1000000 + 6), .one (.eptr acE))] [(1, ⟨0, .box (.es (zBC c)), 0⟩)]) (fun i => (c.ro.drop i).all vlB = c.ro.all vlB /\ i <= c.ro.length) (fun i => c.ro.length - i) (0) (zAh (ad := []) (by refine ⟨?_, ?_, ?_, ?_, ?_, ?_, trivial⟩ <;> first | exact trivial | rfl | exact ⟨rfl, rfl⟩ | exact ⟨rfl, rfl, rfl⟩ | exact ⟨rfl, rfl, rfl, rfl⟩ | exact ⟨rfl, rfl, rfl, rfl, rfl⟩ | exact congrArg (fun z : Int => E.v (.int .i64 z)) (zAf (by omega) (by omega)) | (refine ⟨rfl, ?_⟩; repeat' first | exact trivial | rfl | apply And.intro)) zm) ⟨rfl, Nat.zero_le _⟩ ?_
  rintro i ⟨hb, il⟩
  repeat' first | refine zx ?_ | fail
  refine zc (fun hc => ?_) fun hc => ?_
  ·simp only [zz] at hc
   (try simp only [l2] at hc)
   (try simp only [zz] at hc)
   have hlt : i < c.ro.length := by omega
   have hg := zOf c.ro i hlt
   rw [zAS (d := zBD) hlt, List.all_cons] at hb
   refine zy ?_ ?_
   ·rw [Int.toNat_natCast, hg]
    exact zza
   rw [Int.toNat_natCast, hg]
   generalize c.ro.getD i zBD = v at *
   refine zAq (s' := St.of [(1, .one (.ptr 1 0 0)), (6, .one (.ptr 6 0 0)), (61, .one (.e (.sl (c.ro.map zBw)))), (62, .one (.e (eI ((c.ro.map zBw).length : Int)))), (63, .one (.e (eI (i : Int)))), ((1000000 + 5), .one (.eptr fsE)), ((1000000 + 6), .one (.eptr acE))] [(1, ⟨0, .box (.es (zBC c)), 0⟩), (6, ⟨0, .box (.es (zBw v)), 0⟩)]) (zAh (ad := []) (by refine ⟨?_, ?_, ?_, ?_, ?_, ?_, ?_, trivial⟩ <;> first | exact trivial | rfl | exact ⟨rfl, rfl⟩ | exact ⟨rfl, rfl, rfl⟩ | exact ⟨rfl, rfl, rfl, rfl⟩ | exact ⟨rfl, rfl, rfl, rfl, rfl⟩ | exact congrArg (fun z : Int => E.v (.int .i64 z)) (zAf (by omega) (by omega)) | (refine ⟨rfl, ?_⟩; repeat' first | exact trivial | rfl | apply And.intro)) zm) ?_
   have h3 := zI1 v
   have h64 : IntKind.i64.wrap ((i : Int) + 1) = ((i + 1 : Nat) : Int) := zAf (by omega) (by omega)
   repeat' apply zn
   refine zAa (zzx hnt rfl ?_ (callV rfl rfl rfl rfl rfl rfl rfl hnt rfl (h3) (zzx hnt rfl ?_ (Lex.nil _)))) ?_
   ·exact zza
   ·exact zza
   have hP : (bif !decide (chk v = 0) then true else decide (v.i = -9223372036854775808)) = !vlB v := by
    unfold vlB
    rw [Bool.eq_iff_iff]
    simp only [zz]
    omega
   refine zc (fun hc => ?_) fun hc => ?_
   ·have hc : (bif !decide (chk v = 0) then true else decide (v.i = -9223372036854775808)) = true := hc
    rw [hP, Bool.not_eq_true'] at hc
    rw [hc, Bool.false_and] at hb
    repeat' first | refine zx ?_ | apply zn
    rw [zII hh, hbd, <-hb, Bool.false_and]
    exact zAb ⟨.inr rfl, _, _, rfl, trivial, rfl⟩
   have hc : (bif !decide (chk v = 0) then true else decide (v.i = -9223372036854775808)) = false := hc
   rw [hP, Bool.not_eq_false'] at hc
   rw [hc, Bool.true_and] at hb
   repeat' first | refine zx ?_ | apply zn
   rw [h64]
   refine ⟨(i + 1), ⟨hb, by omega⟩, by omega, zAh (ad := []) (by refine ⟨?_, ?_, ?_, ?_, ?_, ?_, trivial⟩ <;> first | exact trivial | rfl | exact ⟨rfl, rfl⟩ | exact ⟨rfl, rfl, rfl⟩ | exact ⟨rfl, rfl, rfl, rfl⟩ | exact ⟨rfl, rfl, rfl, rfl, rfl⟩ | exact congrArg (fun z : Int => E.v (.int .i64 z)) (zAf (by omega) (by omega)) | (refine ⟨rfl, ?_⟩; repeat' first | exact trivial | rfl | apply And.intro)) zm⟩
  simp only [zz] at hc
  (try simp only [l2] at hc)
  (try simp only [zz] at hc)
  refine zAt ?_
  rw [List.drop_eq_nil_of_le (by omega), List.all_nil] at hb
  repeat' first | refine zx ?_ | apply zn
  refine zAb ⟨.inr rfl, _, _, rfl, trivial, ?_⟩
  refine congrArg (fun b => D.v (.bool b)) ?_
  show decide (0 < ((c.ro.map zBw).length : Int)) = _
  rw [zII hh, hbd, <-hb, l2, Bool.true_and]
  exact decide_eq_decide.2 (by omega)
 simp only [zz] at hc
 (try simp only [cm0 c] at hc)
 (try simp only [zz] at hc)
 have n2 := hc
 have hw := zFV c.wh h.wh
 rw [<-cmW c] at hw
 repeat' first | refine zx ?_ | fail
 refine zc (fun hc => ?_) fun hc => ?_
 ·simp only [zz] at hc
  (try simp only [cm0 c] at hc)
  (try simp only [zz] at hc)
  have hbd : bdB c = (c.ss.all stB && (decide (0 < c.ss.length) && decide (cdP c.wh))) := by unfold bdB; rw [if_neg n1, if_neg n2, if_pos hc]
  repeat' first | refine zx ?_ | apply zn
  repeat' apply zn
  refine zAx (σ := Nat) (fun i => St.of [(1, .one (.ptr 1 0 0)), (83, .one (.e (.sl (c.ss.map zCe)))), (84, .one (.e (eI ((c.ss.map zCe).length : Int)))), (85, .one (.e (eI (i : Int)))), ((1000000 + 5), .one (.eptr fsE)), ((1000000 + 6), .one (.eptr acE))] [(1, ⟨0, .box (.es (zBC c)), 0⟩)]) (fun i => (c.ss.drop i).all stB = c.ss.all stB /\ i <= c.ss.length) (fun i => c.ss.length - i) (0) (zAh (ad := []) (by refine ⟨?_, ?_, ?_, ?_, ?_, ?_, trivial⟩ <;> first | exact trivial | rfl | exact ⟨rfl, rfl⟩ | exact ⟨rfl, rfl, rfl⟩ | exact ⟨rfl, rfl, rfl, rfl⟩ | exact ⟨rfl, rfl, rfl, rfl, rfl⟩ | exact congrArg (fun z : Int => E.v (.int .i64 z)) (zAf (by omega) (by omega)) | (refine ⟨rfl, ?_⟩; repeat' first | exact trivial | rfl | apply And.intro)) zm) ⟨rfl, Nat.zero_le _⟩ ?_
  rintro i ⟨hb, il⟩
  repeat' first | refine zx ?_ | fail
  refine zc (fun hc => ?_) fun hc => ?_
  ·simp only [zz] at hc
   (try simp only [l3] at hc)
   (try simp only [zz] at hc)
   have hlt : i < c.ss.length := by omega
   have hg := zJu c.ss i hlt
   have hok := h.ss _ (zQA (d := zLS) hlt)
   rw [zAS (d := zLS) hlt, List.all_cons] at hb
   refine zy ?_ ?_
   ·rw [Int.toNat_natCast, hg]
    exact zza
   rw [Int.toNat_natCast, hg]
   generalize c.ss.getD i zLS = s at *
   refine zAq (s' := St.of [(1, .one (.ptr 1 0 0)), (8, .one (.ptr 8 0 0)), (83, .one (.e (.sl (c.ss.map zCe)))), (84, .one (.e (eI ((c.ss.map zCe).length : Int)))), (85, .one (.e (eI (i : Int)))), ((1000000 + 5), .one (.eptr fsE)), ((1000000 + 6), .one (.eptr acE))] [(1, ⟨0, .box (.es (zBC c)), 0⟩), (8, ⟨0, .box (.es (zCe s)), 0⟩)]) (zAh (ad := []) (by refine ⟨?_, ?_, ?_, ?_, ?_, ?_, ?_, trivial⟩ <;> first | exact trivial | rfl | exact ⟨rfl, rfl⟩ | exact ⟨rfl, rfl, rfl⟩ | exact ⟨rfl, rfl, rfl, rfl⟩ | exact ⟨rfl, rfl, rfl, rfl, rfl⟩ | exact congrArg (fun z : Int => E.v (.int .i64 z)) (zAf (by omega) (by omega)) | (refine ⟨rfl, ?_⟩; repeat' first | exact trivial | rfl | apply And.intro)) zm) ?_
   have h3 := zIq s.c hok.1
   have h4 := zC9 s.x hok.2
   rw [<-seX s] at h4
   have h64 : IntKind.i64.wrap ((i : Int) + 1) = ((i + 1 : Nat) : Int) := zAf (by omega) (by omega)
   repeat' apply zn
   refine zAa (zzx hnt rfl ?_ (callV rfl rfl rfl rfl rfl rfl rfl hnt rfl (h3) (zzx hnt rfl ?_ (callVG rfl rfl rfl rfl rfl rfl hnt rfl (fun hq => ?_) rfl (fun hq => h4) (zzx hnt rfl ?_ (Lex.nil _)))))) ?_
   ·exact zza
   ·exact zza
   ·exact zza
   ·exact zza
   have hP : (bif !decide (zC2 s.c) then true else !decide (exF s.x = 0)) = !stB s := by
    unfold stB
    rw [Bool.eq_iff_iff]
    simp only [zz]
    by_cases k : zC2 s.c <;> simp only [k, not_true_eq_false, not_false_eq_true, true_and, false_or, true_or, false_and]
   refine zc (fun hc => ?_) fun hc => ?_
   ·have hc : (bif !decide (zC2 s.c) then true else !decide (exF s.x = 0)) = true := hc
    rw [hP, Bool.not_eq_true'] at hc
    rw [hc, Bool.false_and] at hb
    repeat' first | refine zx ?_ | apply zn
    rw [zII hh, hbd, <-hb, Bool.false_and]
    exact zAb ⟨.inr rfl, _, _, rfl, trivial, rfl⟩
   have hc : (bif !decide (zC2 s.c) then true else !decide (exF s.x = 0)) = false := hc
   rw [hP, Bool.not_eq_false'] at hc
   rw [hc, Bool.true_and] at hb
   repeat' first | refine zx ?_ | apply zn
   rw [h64]
   refine ⟨(i + 1), ⟨hb, by omega⟩, by omega, zAh (ad := []) (by refine ⟨?_, ?_, ?_, ?_, ?_, ?_, trivial⟩ <;> first | exact trivial | rfl | exact ⟨rfl, rfl⟩ | exact ⟨rfl, rfl, rfl⟩ | exact ⟨rfl, rfl, rfl, rfl⟩ | exact ⟨rfl, rfl, rfl, rfl, rfl⟩ | exact congrArg (fun z : Int => E.v (.int .i64 z)) (zAf (by omega) (by omega)) | (refine ⟨rfl, ?_⟩; repeat' first | exact trivial | rfl | apply And.intro)) zm⟩
  simp only [zz] at hc
  (try simp only [l3] at hc)
  (try simp only [zz] at hc)
  refine zAt ?_
  rw [List.drop_eq_nil_of_le (by omega), List.all_nil] at hb
  repeat' apply zn
  refine zAa (zzx hnt rfl ?_ (callVG rfl rfl rfl rfl rfl rfl hnt rfl (fun hq => ?_) rfl (fun hq => hw) (zzx hnt rfl ?_ (Lex.nil _)))) ?_
  ·exact zza
  ·exact zza
  ·exact zza
  repeat' apply zn
  refine zAb ⟨.inr rfl, _, _, rfl, trivial, ?_⟩
  refine congrArg (fun b => D.v (.bool b)) ?_
  show (bif decide (0 < ((c.ss.map zCe).length : Int)) then decide (cdP c.wh) else false) = _
  rw [zII hh, hbd, <-hb, l3, Bool.true_and, zCn]
  congr 1
  exact decide_eq_decide.2 (by omega)
 simp only [zz] at hc
 (try simp only [cm0 c] at hc)
 (try simp only [zz] at hc)
 have n3 := hc
 repeat' first | refine zx ?_ | fail
 refine zc (fun hc => ?_) fun hc => ?_
 ·simp only [zz] at hc
  (try simp only [cm0 c] at hc)
  (try simp only [zz] at hc)
  have hbd : bdB c = decide (cdP c.wh) := by unfold bdB; rw [if_neg n1, if_neg n2, if_neg n3, if_pos hc]
  repeat' apply zn
  refine zAa (zzx hnt rfl ?_ (callV rfl rfl rfl rfl rfl rfl rfl hnt rfl (hw) (zzx hnt rfl ?_ (Lex.nil _)))) ?_
  ·exact zza
  ·exact zza
  repeat' apply zn
  refine zAb ⟨.inr rfl, _, _, rfl, trivial, ?_⟩
  rw [zII hh, hbd]
  rfl
 simp only [zz] at hc
 (try simp only [cm0 c] at hc)
 (try simp only [zz] at hc)
 have n4 := hc
 repeat' first | refine zx ?_ | fail
 refine zc (fun hc => ?_) fun hc => ?_
 ·simp only [zz] at hc
  (try simp only [cm0 c] at hc)
  (try simp only [zz] at hc)
  have hbd : bdB c = asB c.q := by unfold bdB; rw [if_neg n1, if_neg n2, if_neg n3, if_neg n4, if_pos hc]
  have hq := zQ9 c.q h.q h.g
  rw [<-cmQ c] at hq
  repeat' apply zn
  refine zAa (zzx hnt rfl ?_ (callV rfl rfl rfl rfl rfl rfl rfl hnt rfl (hq) (zzx hnt rfl ?_ (Lex.nil _)))) ?_
  ·exact zza
  ·exact zza
  repeat' apply zn
  refine zAb ⟨.inr rfl, _, _, rfl, trivial, ?_⟩
  rw [zII hh, hbd]
  rfl
 simp only [zz] at hc
 (try simp only [cm0 c] at hc)
 (try simp only [zz] at hc)
 have n5 := hc
 have hbd : bdB c = decide (c.rt = 1 \/ c.rt = 2) := by unfold bdB; rw [if_neg n1, if_neg n2, if_neg n3, if_neg n4, if_neg n5]
 repeat' first | refine zx ?_ | apply zn
 refine zAb ⟨.inr rfl, _, _, rfl, trivial, ?_⟩
 refine congrArg (fun b => D.v (.bool b)) ?_
 show (bif decide (c.rt = 1) then true else decide (c.rt = 2)) = _
 rw [zII hh, hbd, Bool.eq_iff_iff]
 simp only [zz]
def cmF (c : Cmd) : Int := if c.k < 1 \/ 7 < c.k then 2 else if (decide (lnP c) && slB c) = false then 1 else if (decide (sbP c) && fmB c) = false then 3 else 0
theorem zM3 (c : Cmd) (h : c.ok) : FnG Tryz.prog 8 gK [.agg (.es (zBC c))] (.one (.e (eI (cmF c)))) := by
 refine zG 22 Tryz.func8 fun X hnt => ?_
 have f29 : 0 + 29 <= (Cs.es (zBC c)).len := Nat.le_refl 29
 have h1 := zM2 c h
 have h2 := zP9 c
 rw [<-zS2 c] at h1 h2
 unfold cmF
 repeat' first | refine zx ?_ | fail
 refine zc (fun hc => ?_) fun hc => ?_
 ·simp only [zz] at hc
  (try simp only [cm0 c] at hc)
  (try simp only [zz] at hc)
  rw [if_pos hc]
  repeat' first | refine zx ?_ | apply zn
  exact zAb ⟨.inr rfl, _, _, rfl, trivial, rfl⟩
 simp only [zz] at hc
 (try simp only [cm0 c] at hc)
 (try simp only [zz] at hc)
 rw [if_neg (by omega)]
 repeat' apply zn
 refine zAa (zzx hnt rfl ?_ (callV rfl rfl rfl rfl rfl rfl rfl hnt rfl (h1) (zzx hnt rfl ?_ (Lex.nil _)))) ?_
 ·exact zza
 ·exact zza
 refine zc (fun hc => ?_) fun hc => ?_
 ·have hc : (!(decide (lnP c) && slB c)) = true := hc
  rw [Bool.not_eq_true'] at hc
  rw [if_pos hc]
  repeat' first | refine zx ?_ | apply zn
  exact zAb ⟨.inr rfl, _, _, rfl, trivial, rfl⟩
 have hc : (!(decide (lnP c) && slB c)) = false := hc
 rw [Bool.not_eq_false'] at hc
 rw [if_neg (by rw [hc]; decide)]
 have hl := of_decide_eq_true (Bool.and_eq_true_iff.1 hc).1
 unfold lnP at hl
 have h3 := zO5 c h hl.1.1.1.1 hl.1.1.1.2 hl.1.1.2
 rw [<-zS2 c] at h3
 repeat' apply zn
 refine zAa (zzx hnt rfl ?_ (call rfl rfl rfl rfl rfl rfl rfl hnt (h2) (zzx hnt rfl ?_ (callVG rfl rfl rfl rfl rfl rfl hnt rfl (fun hq => ?_) rfl (fun hq => h3) (zzx hnt rfl ?_ (Lex.nil _)))))) ?_
 ·exact zza
 ·exact zza
 ·exact zza
 ·exact zza
 refine zc (fun hc => ?_) fun hc => ?_
 ·have hc : (bif !decide (sbP c) then true else !fmB c) = true := hc
  repeat' first | refine zx ?_ | apply zn
  rw [if_pos (by revert hc; cases decide (sbP c) <;> cases fmB c <;> decide)]
  exact zAb ⟨.inr rfl, _, _, rfl, trivial, rfl⟩
 have hc : (bif !decide (sbP c) then true else !fmB c) = false := hc
 repeat' first | refine zx ?_ | apply zn
 rw [if_neg (by revert hc; cases decide (sbP c) <;> cases fmB c <;> decide)]
 exact zAb ⟨.inr rfl, _, _, rfl, trivial, rfl⟩
def xsF (c : Cmd) : List Ex := [c.wh, c.q.w] ++ c.ss.map (·.x) ++ c.q.is.map (·.x)
def xsS (c : Cmd) (i : Nat) : List (List E) := zBv ([c.wh, c.q.w] ++ (c.ss.take i).map (·.x))
def xsI (c : Cmd) (i : Nat) : List (List E) := zBv ([c.wh, c.q.w] ++ c.ss.map (·.x) ++ (c.q.is.take i).map (·.x))
theorem zPT {c : Cmd} {i : Nat} (h : i < c.ss.length) : xsS c (i + 1) = xsS c i ++ [eEx (c.ss.getD i zLS).x] := by
 unfold xsS
 rw [zDR (d := zLS) h, List.map_append, <-List.append_assoc, zIY]
 rfl
theorem zPU {c : Cmd} {i : Nat} (h : i < c.q.is.length) : xsI c (i + 1) = xsI c i ++ [eEx (c.q.is.getD i zMk).x] := by
 unfold xsI
 rw [zDR (d := zMk) h, List.map_append, <-List.append_assoc, zIY]
 rfl
theorem zR9 (c : Cmd) (i : Nat) : (xsS c i).length <= 2 + i := by
 unfold xsS
 rw [zC8, List.length_append, List.length_map, List.length_take]
 show 2 + _ <= _
 omega
theorem zSa (c : Cmd) (i : Nat) : (xsI c i).length <= 2 + c.ss.length + i := by
 unfold xsI
 rw [zC8, List.length_append, List.length_append, List.length_map, List.length_map, List.length_take]
 show 2 + _ + _ <= _
 omega
theorem zVy {c : Cmd} {i : Nat} (h : c.ss.length <= i) : xsS c i = xsI c 0 := by
 unfold xsS xsI
 rw [List.take_of_length_le h, List.take_zero, List.map_nil, List.append_nil]
theorem zSb {c : Cmd} {i : Nat} (h : c.q.is.length <= i) : xsI c i = zBv (xsF c) := by
 unfold xsI xsF
 rw [List.take_of_length_le h]
theorem zTM {α : Type} {l : List α} {n : Nat} (h : l.length = n) : List.take (Int.toNat (n : Int) - Int.toNat 0) (List.drop (Int.toNat 0) l) = l := by
 subst h
 simp
theorem zXd (l : List CSet) : ∀ cs ∈ l.map zCe, cs.length = 8 := fun cs h => by obtain ⟨q, _, rfl⟩ := List.mem_map.1 h; rfl
theorem zXq (l : List Itm) : ∀ cs ∈ l.map zBP, cs.length = 8 := fun cs h => by obtain ⟨q, _, rfl⟩ := List.mem_map.1 h; rfl
theorem zWY (c : Cmd) : ((zBC c).getD (0 + 14 + 0) E.dflt).xs = c.q.is.map zBP := rfl
theorem zQX (c : Cmd) (z3 : c.ss.length <= 4) (z4 : c.q.is.length <= 4) : FnD Tryz.prog 35 [.agg (.es (zBC c))] (.one (.e (.sl (zBv (xsF c))))) := by
 refine zD 53 Tryz.func35 fun X hnt => ?_
 have f29 : 0 + 29 <= (Cs.es (zBC c)).len := Nat.le_refl 29
 have l3 := zGD c.ss
 have l4 := zFT c.q.is
 have k1 := ex7 c.wh
 rw [<-cmW c] at k1
 have k2 : (List.take 7 (List.drop (0 + 14 + 1) (zBC c))).length = 7 := rfl
 have h8 := zXd c.ss
 have hx0 : [List.take 7 (List.drop (0 + 7) (zBC c)), List.take 7 (List.drop (0 + 14 + 1) (zBC c))] = xsS c 0 := by
  unfold xsS
  rw [zBz, cmW, show List.take 7 (List.drop (0 + 14 + 1) (zBC c)) = eEx c.q.w by rw [zAp]; rfl]
  rfl
 have h8' := zXq c.q.is
 refine zxa ?_
 refine zxa ?_
 refine zy ?_ ?_
 ·rw [cm6, l3, cond_true, if_neg (show ¬ ((4 : Int) < (c.ss.length : Int)) by omega)]
  (dsimp only [zBh]; (repeat' first | exact trivial | assumption | exact Nat.le_of_ble_eq_true rfl | apply And.intro | exact zAm _ _ ‹_› | exact zAi _ _ ‹_› | (intro hh_; have hg_ := hh_; (try simp only [zAr, zAs, zBm, zBp, Bool.and_eq_true, ne_eq, decide_eq_true_eq, decide_eq_false_iff_not] at hg_)) | intro _ | exact rfl | omega))
  all_goals exact h8 _ ‹_›
 rw [cm6, l3, cond_true, if_neg (show ¬ ((4 : Int) < (c.ss.length : Int)) by omega), zTM l3]
 repeat' apply zn
 refine zAx (σ := Nat) (fun i => St.of [(1, .one (.ptr 1 0 0)), (3, .one (.own 13 0)), (20, .one (.e (.sl (c.ss.map zCe)))), (21, .one (.e (eI ((c.ss.map zCe).length : Int)))), (22, .one (.e (eI (i : Int))))] [(1, ⟨0, .box (.es (zBC c)), 0⟩), (13, ⟨0, .row 7 (xsS c i), 0⟩)]) (fun i => i <= c.ss.length) (fun i => c.ss.length - i) (0) (zAh (ad := []) (by refine ⟨?_, ?_, ?_, ?_, ?_, trivial⟩ <;> first | exact trivial | rfl | exact ⟨rfl, rfl⟩ | exact ⟨rfl, rfl, rfl⟩ | exact ⟨rfl, rfl, rfl, rfl⟩ | exact ⟨rfl, rfl, rfl, rfl, rfl⟩ | exact congrArg (fun z : Int => E.v (.int .i64 z)) (zAf (by omega) (by omega)) | (refine ⟨rfl, ?_⟩; repeat' first | exact trivial | rfl | apply And.intro)) (zAg rfl rfl rfl (zAe rfl rfl hx0 trivial))) (Nat.zero_le _) ?_
 rintro i il
 repeat' first | refine zx ?_ | fail
 refine zc (fun hc => ?_) fun hc => ?_
 ·simp only [zz] at hc
  (try simp only [l3] at hc)
  (try simp only [zz] at hc)
  have hlt : i < c.ss.length := by omega
  have hg := zJu c.ss i hlt
  have hsx := zPT hlt
  have hsl := zR9 c i
  refine zy ?_ ?_
  ·rw [Int.toNat_natCast, hg]
   exact zza
  rw [Int.toNat_natCast, hg]
  generalize c.ss.getD i zLS = s at *
  have h64 : IntKind.i64.wrap ((i : Int) + 1) = ((i + 1 : Nat) : Int) := zAf (by omega) (by omega)
  rw [<-seX s] at hsx
  have k3 : (List.take 7 (List.drop (0 + 1) (zCe s))).length = 7 := rfl
  have m1 : ∀ x : List E, (xsS c i).length + [x].length <= maxLen := fun x => by show (xsS c i).length + 1 <= maxLen; unfold maxLen; omega
  have m2 : ∀ x : List E, ((xsS c i).length + [x].length) * 88 <= 140737488355328 := fun x => by show ((xsS c i).length + 1) * 88 <= _; omega
  refine zy ?_ ?_
  ·(dsimp only [zBh]; (repeat' first | exact trivial | assumption | exact Nat.le_of_ble_eq_true rfl | apply And.intro | exact zAm _ _ ‹_› | exact zAi _ _ ‹_› | (intro hh_; have hg_ := hh_; (try simp only [zAr, zAs, zBm, zBp, Bool.and_eq_true, ne_eq, decide_eq_true_eq, decide_eq_false_iff_not] at hg_)) | intro _ | exact rfl | omega))
   all_goals first | exact m1 _ | exact m2 _ | trace_state
  repeat' first | refine zx ?_ | apply zn
  rw [h64]
  refine ⟨(i + 1), (by omega), by omega, zAh (ad := []) (by refine ⟨?_, ?_, ?_, ?_, ?_, trivial⟩ <;> first | exact trivial | rfl | exact ⟨rfl, rfl⟩ | exact ⟨rfl, rfl, rfl⟩ | exact ⟨rfl, rfl, rfl, rfl⟩ | exact ⟨rfl, rfl, rfl, rfl, rfl⟩ | exact congrArg (fun z : Int => E.v (.int .i64 z)) (zAf (by omega) (by omega)) | (refine ⟨rfl, ?_⟩; repeat' first | exact trivial | rfl | apply And.intro)) (zAg rfl rfl rfl (zAe rfl rfl hsx.symm trivial))⟩
 simp only [zz] at hc
 (try simp only [l3] at hc)
 (try simp only [zz] at hc)
 refine zAt ?_
 refine zy ?_ ?_
 ·rw [zWY, l4, cond_true, if_neg (show ¬ ((4 : Int) < (c.q.is.length : Int)) by omega)]
  (dsimp only [zBh]; (repeat' first | exact trivial | assumption | exact Nat.le_of_ble_eq_true rfl | apply And.intro | exact zAm _ _ ‹_› | exact zAi _ _ ‹_› | (intro hh_; have hg_ := hh_; (try simp only [zAr, zAs, zBm, zBp, Bool.and_eq_true, ne_eq, decide_eq_true_eq, decide_eq_false_iff_not] at hg_)) | intro _ | exact rfl | omega))
  all_goals exact h8' _ ‹_›
 rw [zWY, l4, cond_true, if_neg (show ¬ ((4 : Int) < (c.q.is.length : Int)) by omega), zTM l4, zVy (by omega)]
 repeat' apply zn
 refine zAx (σ := Nat) (fun i => St.of [(3, .one (.own 13 0)), (40, .one (.e (.sl (c.q.is.map zBP)))), (41, .one (.e (eI ((c.q.is.map zBP).length : Int)))), (42, .one (.e (eI (i : Int))))] [(13, ⟨0, .row 7 (xsI c i), 0⟩)]) (fun i => i <= c.q.is.length) (fun i => c.q.is.length - i) (0) (zAh (ad := []) (by refine ⟨?_, ?_, ?_, ?_, trivial⟩ <;> first | exact trivial | rfl | exact ⟨rfl, rfl⟩ | exact ⟨rfl, rfl, rfl⟩ | exact ⟨rfl, rfl, rfl, rfl⟩ | exact ⟨rfl, rfl, rfl, rfl, rfl⟩ | exact congrArg (fun z : Int => E.v (.int .i64 z)) (zAf (by omega) (by omega)) | (refine ⟨rfl, ?_⟩; repeat' first | exact trivial | rfl | apply And.intro)) zm) (Nat.zero_le _) ?_
 rintro i il
 repeat' first | refine zx ?_ | fail
 refine zc (fun hc => ?_) fun hc => ?_
 ·simp only [zz] at hc
  (try simp only [l4] at hc)
  (try simp only [zz] at hc)
  have hlt : i < c.q.is.length := by omega
  have hg := zJW c.q.is i hlt
  have hsx := zPU hlt
  have hsl := zSa c i
  refine zy ?_ ?_
  ·rw [Int.toNat_natCast, hg]
   exact zza
  rw [Int.toNat_natCast, hg]
  generalize c.q.is.getD i zMk = s at *
  have h64 : IntKind.i64.wrap ((i : Int) + 1) = ((i + 1 : Nat) : Int) := zAf (by omega) (by omega)
  rw [<-itX s] at hsx
  have k3 : (List.take 7 (List.drop (0 + 1) (zBP s))).length = 7 := rfl
  have m1 : ∀ x : List E, (xsI c i).length + [x].length <= maxLen := fun x => by show (xsI c i).length + 1 <= maxLen; unfold maxLen; omega
  have m2 : ∀ x : List E, ((xsI c i).length + [x].length) * 88 <= 140737488355328 := fun x => by show ((xsI c i).length + 1) * 88 <= _; omega
  refine zy ?_ ?_
  ·(dsimp only [zBh]; (repeat' first | exact trivial | assumption | exact Nat.le_of_ble_eq_true rfl | apply And.intro | exact zAm _ _ ‹_› | exact zAi _ _ ‹_› | (intro hh_; have hg_ := hh_; (try simp only [zAr, zAs, zBm, zBp, Bool.and_eq_true, ne_eq, decide_eq_true_eq, decide_eq_false_iff_not] at hg_)) | intro _ | exact rfl | omega))
   all_goals first | exact m1 _ | exact m2 _ | trace_state
  repeat' first | refine zx ?_ | apply zn
  rw [h64]
  refine ⟨(i + 1), (by omega), by omega, zAh (ad := []) (by refine ⟨?_, ?_, ?_, ?_, trivial⟩ <;> first | exact trivial | rfl | exact ⟨rfl, rfl⟩ | exact ⟨rfl, rfl, rfl⟩ | exact ⟨rfl, rfl, rfl, rfl⟩ | exact ⟨rfl, rfl, rfl, rfl, rfl⟩ | exact congrArg (fun z : Int => E.v (.int .i64 z)) (zAf (by omega) (by omega)) | (refine ⟨rfl, ?_⟩; repeat' first | exact trivial | rfl | apply And.intro)) (zAe rfl rfl hsx.symm trivial)⟩
 simp only [zz] at hc
 (try simp only [l4] at hc)
 (try simp only [zz] at hc)
 refine zAt ?_
 rw [zSb (by omega)]
 repeat' first | refine zx ?_ | apply zn
 exact zAb ⟨.inr rfl, _, _, rfl, trivial, rfl⟩
def lfP (c : Cmd) : Prop := (((((((0 < c.cs.length \/ 0 < c.ro.length) \/ 0 < c.ss.length) \/ ¬ noC c.wh) \/ zKu c.q) \/ c.to ≠ 0) \/ c.rt ≠ 0) \/ c.op = true)
instance (c : Cmd) : Decidable (lfP c) := inferInstanceAs (Decidable (_ \/ _))
def zT7 : Qry := ⟨[], ex0, [], [], false, 0⟩
def lfC (c : Cmd) : Cmd :=
 if c.k = 1 then { c with cs := [] } else if c.k = 2 then { c with ro := [] } else if c.k = 3 then { c with ss := [], wh := ex0 } else
 if c.k = 4 then { c with wh := ex0 } else if c.k = 5 then { c with q := zT7 } else { c with to := 0, rt := 0, op := false }
def okB (c : Cmd) : Bool :=
 decide (hdP c) && (if c.k = 1 then (((decide (0 < c.cs.length) && decide (c.ow = 0)) && decide (c.dr = 0)) && c.cs.all clB) else
 if c.k = 2 then decide (0 < c.ro.length) && c.ro.all vlB else
 if c.k = 3 then (decide (0 < c.ss.length) && decide (cdP c.wh)) && c.ss.all stB else
 if c.k = 4 then decide (cdP c.wh) else
 if c.k = 5 then asB c.q && decide (c.dr = 0) else (decide (c.rt = 1 \/ c.rt = 2)) && (decide (c.k = 6) || !c.op))
theorem tkA {xs : List E} {n : Nat} (hx : xs.length = n) : (Cs.es (List.take n (List.drop 0 xs))).len = n := by
 show (List.take n (List.drop 0 xs)).length = n
 rw [List.drop_zero, List.take_of_length_le (by omega), hx]
theorem zWN : noC ex0 := ⟨rfl, rfl, ⟨rfl, rfl, rfl, rfl⟩, rfl⟩
theorem zWw : ¬ zKu zT7 := by
 unfold zKu
 have := zWN
 simp [zT7, this]
theorem zUD (c : Cmd) (h : 1 <= c.k /\ c.k <= 7) : (okB c && !decide (lfP (lfC c))) = (decide (sbP c) && fmB c) := by
 have n0 := zWN
 have a0 := zWw
 obtain ⟨k, ow, tb, dr, cs, ro, ss, wh, q, to, rt, op⟩ := c
 dsimp only at h
 unfold okB fmB bdB lfC
 dsimp only
 by_cases k1 : k = 1
 ·subst k1
  rw [if_pos rfl, if_pos rfl, if_pos rfl, Bool.eq_iff_iff]
  simp only [Bool.and_eq_true, Bool.not_eq_true', decide_eq_true_eq, decide_eq_false_iff_not, Bool.or_eq_true]
  unfold lfP sbP
  dsimp only
  generalize hdP _ = H
  generalize (cs.all clB = true) = A
  by_cases p1 : noC wh <;> by_cases p2 : zKu q <;> cases op <;> by_cases p3 : H <;> by_cases p4 : A <;> simp (decide := true) only [p1, p2, p3, p4, ne_eq, false_iff, iff_false, List.length_nil, not_true_eq_false, not_false_eq_true, true_and, and_true, false_and, and_false, or_true, true_or, or_false, false_or, reduceCtorEq] <;> first | done | omega
 by_cases k2 : k = 2
 ·subst k2
  rw [if_neg k1, if_pos rfl, if_neg k1, if_pos rfl, if_neg k1, if_pos rfl, Bool.eq_iff_iff]
  simp only [Bool.and_eq_true, Bool.not_eq_true', decide_eq_true_eq, decide_eq_false_iff_not, Bool.or_eq_true]
  unfold lfP sbP
  dsimp only
  generalize hdP _ = H
  generalize (ro.all vlB = true) = A
  by_cases p1 : noC wh <;> by_cases p2 : zKu q <;> cases op <;> by_cases p3 : H <;> by_cases p4 : A <;> simp (decide := true) only [p1, p2, p3, p4, ne_eq, false_iff, iff_false, List.length_nil, not_true_eq_false, not_false_eq_true, true_and, and_true, false_and, and_false, or_true, true_or, or_false, false_or, reduceCtorEq] <;> first | done | omega
 by_cases k3 : k = 3
 ·subst k3
  rw [if_neg k1, if_neg k2, if_pos rfl, if_neg k1, if_neg k2, if_pos rfl, if_neg k1, if_neg k2, if_pos rfl, Bool.eq_iff_iff]
  simp only [Bool.and_eq_true, Bool.not_eq_true', decide_eq_true_eq, decide_eq_false_iff_not, Bool.or_eq_true]
  unfold lfP sbP
  dsimp only
  generalize hdP _ = H
  generalize (ss.all stB = true) = A
  by_cases p5 : cdP wh <;> by_cases p2 : zKu q <;> cases op <;> by_cases p3 : H <;> by_cases p4 : A <;> simp (decide := true) only [n0, p5, p2, p3, p4, ne_eq, false_iff, iff_false, List.length_nil, not_true_eq_false, not_false_eq_true, true_and, and_true, false_and, and_false, or_true, true_or, or_false, false_or, reduceCtorEq] <;> first | done | omega
 by_cases k4 : k = 4
 ·subst k4
  rw [if_neg k1, if_neg k2, if_neg k3, if_pos rfl, if_neg k1, if_neg k2, if_neg k3, if_pos rfl, if_neg k1, if_neg k2, if_neg k3, if_pos rfl, Bool.eq_iff_iff]
  simp only [Bool.and_eq_true, Bool.not_eq_true', decide_eq_true_eq, decide_eq_false_iff_not, Bool.or_eq_true]
  unfold lfP sbP
  dsimp only
  generalize hdP _ = H
  by_cases p5 : cdP wh <;> by_cases p2 : zKu q <;> cases op <;> by_cases p3 : H <;> simp (decide := true) only [n0, p5, p2, p3, ne_eq, false_iff, iff_false, List.length_nil, not_true_eq_false, not_false_eq_true, true_and, and_true, false_and, and_false, or_true, true_or, or_false, false_or, reduceCtorEq] <;> first | done | omega
 by_cases k5 : k = 5
 ·subst k5
  rw [if_neg k1, if_neg k2, if_neg k3, if_neg k4, if_pos rfl, if_neg k1, if_neg k2, if_neg k3, if_neg k4, if_pos rfl, if_neg k1, if_neg k2, if_neg k3, if_neg k4, if_pos rfl, Bool.eq_iff_iff]
  simp only [Bool.and_eq_true, Bool.not_eq_true', decide_eq_true_eq, decide_eq_false_iff_not, Bool.or_eq_true]
  unfold lfP sbP
  dsimp only
  generalize hdP _ = H
  generalize (asB q = true) = A
  by_cases p1 : noC wh <;> cases op <;> by_cases p3 : H <;> by_cases p4 : A <;> simp (decide := true) only [a0, p1, p3, p4, ne_eq, false_iff, iff_false, List.length_nil, not_true_eq_false, not_false_eq_true, true_and, and_true, false_and, and_false, or_true, true_or, or_false, false_or, reduceCtorEq] <;> first | done | omega
 rw [if_neg k1, if_neg k2, if_neg k3, if_neg k4, if_neg k5, if_neg k1, if_neg k2, if_neg k3, if_neg k4, if_neg k5, if_neg k1, if_neg k2, if_neg k3, if_neg k4, if_neg k5, Bool.eq_iff_iff]
 simp only [Bool.and_eq_true, Bool.not_eq_true', decide_eq_true_eq, decide_eq_false_iff_not, Bool.or_eq_true]
 unfold lfP sbP
 dsimp only
 generalize hdP _ = H
 by_cases p1 : noC wh <;> by_cases p2 : zKu q <;> cases op <;> by_cases p3 : H <;> simp (decide := true) only [p1, p2, p3, ne_eq, false_iff, iff_false, List.length_nil, not_true_eq_false, not_false_eq_true, true_and, and_true, false_and, and_false, or_true, true_or, or_false, false_or, reduceCtorEq] <;> first | done | omega
theorem zXN (b : Bool) (k : Colm) : (bif bif bif b then decide (zC2 k.n) else false then decide (1 <= k.k) else false then decide (k.k <= 4) else false) = (b && clB k) := by
 unfold clB
 rw [Bool.decide_and, Bool.decide_and]
 cases b <;> cases decide (zC2 k.n) <;> cases decide (1 <= k.k) <;> rfl
theorem zTU (c : Cmd) : slB c = (xsF c).all fun x => decide (slP x) := by
 unfold slB xsF
 rw [List.all_append, List.all_append, List.all_map, List.all_map, List.all_cons, List.all_cons, List.all_nil, Bool.and_true]
 rfl
theorem zPw (c : Cmd) (h : c.ok) : FnG Tryz.prog 10 gK [.agg (.es (zBC c))] (.one (.e (eI (cmF c)))) := by
 refine zG 286 Tryz.func10 fun X hnt => ?_
 have f29 : 0 + 29 <= (Cs.es (zBC c)).len := Nat.le_refl 29
 have l1 := zFL c.cs
 have l2 := zHH c.ro
 have l3 := zGD c.ss
 have l4 := zFT c.q.is
 have l5 := zGB c.q.ss
 unfold cmF
 repeat' first | refine zx ?_ | fail
 refine zc (fun hc => ?_) fun hc => ?_
 ·simp only [zz] at hc
  (try simp only [cm0 c] at hc)
  (try simp only [zz] at hc)
  rw [if_pos hc]
  repeat' first | refine zx ?_ | apply zn
  exact zAb ⟨.inr rfl, _, _, rfl, trivial, rfl⟩
 simp only [zz] at hc
 (try simp only [cm0 c] at hc)
 (try simp only [zz] at hc)
 have hk : 1 <= c.k /\ c.k <= 7 := by omega
 rw [if_neg (by omega)]
 repeat' first | refine zx ?_ | fail
 refine zc (fun hc => ?_) fun hc => ?_
 ·have hc : (bif bif bif bif decide (5 < ((c.cs.map zCm).length : Int)) then true else decide (5 < ((c.ro.map zBw).length : Int)) then true else decide (4 < ((c.ss.map zCe).length : Int)) then true else decide (4 < ((c.q.is.map zBP).length : Int)) then true else decide (4 < ((c.q.ss.map zC3).length : Int))) = true := hc
  rw [l1, l2, l3, l4, l5] at hc
  simp only [zz] at hc
  have hn : ¬ lnP c := by unfold lnP; omega
  rw [decide_eq_false hn, Bool.false_and, if_pos rfl]
  repeat' first | refine zx ?_ | apply zn
  exact zAb ⟨.inr rfl, _, _, rfl, trivial, rfl⟩
 have hc : (bif bif bif bif decide (5 < ((c.cs.map zCm).length : Int)) then true else decide (5 < ((c.ro.map zBw).length : Int)) then true else decide (4 < ((c.ss.map zCe).length : Int)) then true else decide (4 < ((c.q.is.map zBP).length : Int)) then true else decide (4 < ((c.q.ss.map zC3).length : Int))) = false := hc
 rw [l1, l2, l3, l4, l5] at hc
 simp only [zz] at hc
 have hn : lnP c := by unfold lnP; omega
 rw [decide_eq_true hn, Bool.true_and]
 have hn1 := hn
 unfold lnP at hn1
 have hx := zQX c hn1.1.1.2 hn1.1.2
 rw [<-zS2 c] at hx
 have hxl := zC8 (xsF c)
 have hxn : (xsF c).length <= 10 := by
  unfold xsF
  rw [List.length_append, List.length_append, List.length_map, List.length_map]
  show 2 + _ + _ <= _
  omega
 clear hc
 repeat' apply zn
 refine zAa (zzx hnt rfl ?_ (call rfl rfl rfl rfl rfl rfl rfl hnt (hx) (zzx hnt rfl ?_ (Lex.nil _)))) ?_
 ·exact zza
 ·exact zza
 rw [zTU]
 repeat' apply zn
 refine zAx (σ := Nat) (fun i => St.of [(1, .one (.ptr 1 0 0)), (51, .one (.e (.sl (zBv (xsF c))))), (52, .one (.e (eI ((zBv (xsF c)).length : Int)))), (53, .one (.e (eI (i : Int)))), ((1000000 + 5), .one (.eptr fsE)), ((1000000 + 6), .one (.eptr acE))] [(1, ⟨0, .box (.es (zBC c)), 0⟩)]) (fun i => ((xsF c).drop i).all (fun x => decide (slP x)) = (xsF c).all (fun x => decide (slP x)) /\ i <= (xsF c).length) (fun i => (xsF c).length - i) (0) (zAh (ad := []) (by refine ⟨?_, ?_, ?_, ?_, ?_, ?_, trivial⟩ <;> first | exact trivial | rfl | exact ⟨rfl, rfl⟩ | exact ⟨rfl, rfl, rfl⟩ | exact ⟨rfl, rfl, rfl, rfl⟩ | exact ⟨rfl, rfl, rfl, rfl, rfl⟩ | exact congrArg (fun z : Int => E.v (.int .i64 z)) (zAf (by omega) (by omega)) | (refine ⟨rfl, ?_⟩; repeat' first | exact trivial | rfl | apply And.intro)) zm) ⟨rfl, Nat.zero_le _⟩ ?_
 rintro i ⟨hb, il⟩
 repeat' first | refine zx ?_ | fail
 refine zc (fun hc => ?_) fun hc => ?_
 ·simp only [zz] at hc
  (try simp only [hxl] at hc)
  (try simp only [zz] at hc)
  have hlt : i < (xsF c).length := by omega
  have hg := zHY (xsF c) i hlt
  rw [zAS (d := ex0) hlt, List.all_cons] at hb
  have hx7 := ex7 ((xsF c).getD i ex0)
  have f1 : 0 + 7 <= (Cs.es (eEx ((xsF c).getD i ex0))).len := by show 0 + 7 <= (eEx _).length; omega
  have t7 := tkA hx7
  refine zy ?_ ?_
  ·rw [Int.toNat_natCast, hg, hxl]
   exact zza
  rw [Int.toNat_natCast, hg]
  generalize (xsF c).getD i ex0 = x at *
  refine zAq (s' := St.of [(1, .one (.ptr 1 0 0)), (4, .one (.ptr 4 0 0)), (51, .one (.e (.sl (zBv (xsF c))))), (52, .one (.e (eI ((zBv (xsF c)).length : Int)))), (53, .one (.e (eI (i : Int)))), ((1000000 + 5), .one (.eptr fsE)), ((1000000 + 6), .one (.eptr acE))] [(1, ⟨0, .box (.es (zBC c)), 0⟩), (4, ⟨0, .box (.es (eEx x)), 0⟩)]) (zAh (ad := []) (by refine ⟨?_, ?_, ?_, ?_, ?_, ?_, ?_, trivial⟩ <;> first | exact trivial | rfl | exact ⟨rfl, rfl⟩ | exact ⟨rfl, rfl, rfl⟩ | exact ⟨rfl, rfl, rfl, rfl⟩ | exact ⟨rfl, rfl, rfl, rfl, rfl⟩ | exact congrArg (fun z : Int => E.v (.int .i64 z)) (zAf (by omega) (by omega)) | (refine ⟨rfl, ?_⟩; repeat' first | exact trivial | rfl | apply And.intro)) (zAg rfl rfl rfl (zAg rfl rfl (zIN x) trivial))) ?_
  have h3 := zJh x
  rw [<-zIN x] at h3
  have h64 : IntKind.i64.wrap ((i : Int) + 1) = ((i + 1 : Nat) : Int) := zAf (by omega) (by omega)
  repeat' apply zn
  refine zAa (zzx hnt rfl ?_ (call rfl rfl rfl rfl rfl rfl rfl hnt (h3) (zzx hnt rfl ?_ (Lex.nil _)))) ?_
  ·exact zza
  ·exact zza
  refine zc (fun hc => ?_) fun hc => ?_
  ·have hc : (!decide (ht x <= 7 /\ zBY x <= 40)) = true := hc
   simp only [zz] at hc
   rw [<-zRt] at hc
   rw [decide_eq_false hc, Bool.false_and] at hb
   rw [<-hb, if_pos rfl]
   repeat' first | refine zx ?_ | apply zn
   exact zAb ⟨.inr rfl, _, _, rfl, trivial, rfl⟩
  have hc : (!decide (ht x <= 7 /\ zBY x <= 40)) = false := hc
  simp only [zz] at hc
  rw [<-zRt] at hc
  rw [decide_eq_true hc, Bool.true_and] at hb
  repeat' first | refine zx ?_ | apply zn
  rw [h64]
  refine ⟨(i + 1), ⟨hb, by omega⟩, by omega, zAh (ad := []) (by refine ⟨?_, ?_, ?_, ?_, ?_, ?_, trivial⟩ <;> first | exact trivial | rfl | exact ⟨rfl, rfl⟩ | exact ⟨rfl, rfl, rfl⟩ | exact ⟨rfl, rfl, rfl, rfl⟩ | exact ⟨rfl, rfl, rfl, rfl, rfl⟩ | exact congrArg (fun z : Int => E.v (.int .i64 z)) (zAf (by omega) (by omega)) | (refine ⟨rfl, ?_⟩; repeat' first | exact trivial | rfl | apply And.intro)) zm⟩
 simp only [zz] at hc
 (try simp only [hxl] at hc)
 (try simp only [zz] at hc)
 refine zAt ?_
 rw [List.drop_eq_nil_of_le (by omega), List.all_nil] at hb
 rw [<-hb, if_neg (by decide), <-zUD c hk]
 clear hb hx
 have hnm := zEg c.tb h.tb
 repeat' apply zn
 refine zAa (zzx hnt rfl ?_ (call rfl rfl rfl rfl rfl rfl rfl hnt (hnm) (zzx hnt rfl ?_ (Lex.nil _)))) ?_
 ·exact zza
 ·exact zza
 have hP : (bif bif bif decide (zC2 c.tb) then decide (0 <= c.ow) else false then decide (0 <= c.dr) else false then decide (0 <= c.to) else false) = decide (hdP c) := by
  rw [Bool.eq_iff_iff]
  simp only [zz]
  unfold hdP
  exact Iff.rfl
 refine zxa ?_
 first | refine zBy (σ := Cmd × Bool) (fun y => St.of [(1, .one (.ptr 1 0 0)), (5, .v (.bool y.2)), ((1000000 + 5), .one (.eptr fsE)), ((1000000 + 6), .one (.eptr acE))] [(1, ⟨0, .box (.es (zBC y.1)), 0⟩)]) (fun y => y.1 = lfC c /\ y.2 = okB c) ?_ ?_ | refine zDI (zBy (σ := Cmd × Bool) (fun y => St.of [(1, .one (.ptr 1 0 0)), (5, .v (.bool y.2)), ((1000000 + 5), .one (.eptr fsE)), ((1000000 + 6), .one (.eptr acE))] [(1, ⟨0, .box (.es (zBC y.1)), 0⟩)]) (fun y => y.1 = lfC c /\ y.2 = okB c) ?_ ?_)
 ·repeat' first | refine zx ?_ | fail
  refine zc (fun hc => ?_) fun hc => ?_
  ·simp only [zz] at hc
   (try simp only [cm0 c] at hc)
   (try simp only [zz] at hc)
   have e1 := hc
   repeat' first | refine zx ?_ | apply zn
   repeat' apply zn
   refine zAx (σ := Nat × Bool) (fun y => St.of [(1, .one (.ptr 1 0 0)), (5, .v (.bool y.2)), (125, .one (.e (.sl (c.cs.map zCm)))), (126, .one (.e (eI ((c.cs.map zCm).length : Int)))), (127, .one (.e (eI (y.1 : Int)))), ((1000000 + 5), .one (.eptr fsE)), ((1000000 + 6), .one (.eptr acE))] [(1, ⟨0, .box (.es (zBC c)), 0⟩)]) (fun y => (y.2 && (c.cs.drop y.1).all clB) = okB c /\ y.1 <= c.cs.length) (fun y => c.cs.length - y.1) ((0, bif bif bif (bif bif bif decide (zC2 c.tb) then decide (0 <= c.ow) else false then decide (0 <= c.dr) else false then decide (0 <= c.to) else false) then decide (0 < ((c.cs.map zCm).length : Int)) else false then decide (c.ow = 0) else false then decide (c.dr = 0) else false)) (zAh (ad := []) (by refine ⟨?_, ?_, ?_, ?_, ?_, ?_, ?_, trivial⟩ <;> first | exact trivial | rfl | exact ⟨rfl, rfl⟩ | exact ⟨rfl, rfl, rfl⟩ | exact ⟨rfl, rfl, rfl, rfl⟩ | exact ⟨rfl, rfl, rfl, rfl, rfl⟩ | exact congrArg (fun z : Int => E.v (.int .i64 z)) (zAf (by omega) (by omega)) | (refine ⟨rfl, ?_⟩; repeat' first | exact trivial | rfl | apply And.intro)) zm) ⟨by rw [hP, l1]; unfold okB; rw [if_pos hc]; simp only [zCn, List.drop_zero, Bool.and_assoc]; congr 2; exact decide_eq_decide.2 (by omega), Nat.zero_le _⟩ ?_
   rintro ⟨i, b⟩ ⟨hb, il⟩
   dsimp only at hb il ⊢
   repeat' first | refine zx ?_ | fail
   refine zc (fun hc => ?_) fun hc => ?_
   ·have hk1 := hc
    simp only [zz] at hc
    (try simp only [l1] at hc)
    (try simp only [zz] at hc)
    have hlt : i < c.cs.length := by omega
    have hg := zLp c.cs i hlt
    have hok := h.cs _ (zQA (d := zPR) hlt)
    rw [zAS (d := zPR) hlt, List.all_cons, <-Bool.and_assoc] at hb
    refine zy ?_ ?_
    ·rw [Int.toNat_natCast, hg]
     exact zza
    rw [Int.toNat_natCast, hg]
    generalize c.cs.getD i zPR = k at *
    have h3 := zEg k.n hok
    have h64 : IntKind.i64.wrap ((i : Int) + 1) = ((i + 1 : Nat) : Int) := zAf (by omega) (by omega)
    refine zAq (s' := St.of [(1, .one (.ptr 1 0 0)), (5, .v (.bool b)), (7, .one (.ptr 7 0 0)), (125, .one (.e (.sl (c.cs.map zCm)))), (126, .one (.e (eI ((c.cs.map zCm).length : Int)))), (127, .one (.e (eI (i : Int)))), ((1000000 + 5), .one (.eptr fsE)), ((1000000 + 6), .one (.eptr acE))] [(1, ⟨0, .box (.es (zBC c)), 0⟩), (7, ⟨0, .box (.es (zCm k)), 0⟩)]) (zAh (ad := []) (by refine ⟨?_, ?_, ?_, ?_, ?_, ?_, ?_, ?_, trivial⟩ <;> first | exact trivial | rfl | exact ⟨rfl, rfl⟩ | exact ⟨rfl, rfl, rfl⟩ | exact ⟨rfl, rfl, rfl, rfl⟩ | exact ⟨rfl, rfl, rfl, rfl, rfl⟩ | exact congrArg (fun z : Int => E.v (.int .i64 z)) (zAf (by omega) (by omega)) | (refine ⟨rfl, ?_⟩; repeat' first | exact trivial | rfl | apply And.intro)) zm) ?_
    repeat' apply zn
    refine zAa (zzx hnt rfl ?_ (callG rfl rfl rfl rfl rfl rfl hnt rfl (fun hq => ?_) (fun hq => h3) (zzx hnt rfl ?_ (Lex.nil _)))) ?_
    ·exact zza
    ·exact zza
    ·exact zza
    repeat' first | refine zx ?_ | apply zn
    rw [h64]
    refine ⟨(i + 1, bif bif bif b then decide (zC2 k.n) else false then decide (1 <= k.k) else false then decide (k.k <= 4) else false), ⟨by dsimp only; rw [zXN]; exact hb, by dsimp only; omega⟩, by dsimp only; omega, zAh (ad := []) (by refine ⟨?_, ?_, ?_, ?_, ?_, ?_, ?_, trivial⟩ <;> first | exact trivial | rfl | exact ⟨rfl, rfl⟩ | exact ⟨rfl, rfl, rfl⟩ | exact ⟨rfl, rfl, rfl, rfl⟩ | exact ⟨rfl, rfl, rfl, rfl, rfl⟩ | exact congrArg (fun z : Int => E.v (.int .i64 z)) (zAf (by omega) (by omega)) | (refine ⟨rfl, ?_⟩; repeat' first | exact trivial | rfl | apply And.intro)) zm⟩
   simp only [zz] at hc
   (try simp only [l1] at hc)
   (try simp only [zz] at hc)
   refine zAt ?_
   rw [List.drop_eq_nil_of_le (by omega), List.all_nil, Bool.and_true] at hb
   repeat' first | refine zx ?_ | apply zn
   repeat' apply zn
   refine ⟨({ c with cs := [] }, b), ⟨by unfold lfC; rw [if_pos e1], hb⟩, zAh (ad := []) (by refine ⟨?_, ?_, ?_, ?_, trivial⟩ <;> first | exact trivial | rfl | exact ⟨rfl, rfl⟩ | exact ⟨rfl, rfl, rfl⟩ | exact ⟨rfl, rfl, rfl, rfl⟩ | exact ⟨rfl, rfl, rfl, rfl, rfl⟩ | exact congrArg (fun z : Int => E.v (.int .i64 z)) (zAf (by omega) (by omega)) | (refine ⟨rfl, ?_⟩; repeat' first | exact trivial | rfl | apply And.intro)) (zAg rfl rfl (by repeat' first | exact trivial | exact rfl | exact congrArg E.sl (zBz []) | refine ⟨?_, ?_⟩) trivial)⟩
  simp only [zz] at hc
  (try simp only [cm0 c] at hc)
  (try simp only [zz] at hc)
  have e1 := hc
  repeat' first | refine zx ?_ | fail
  refine zc (fun hc => ?_) fun hc => ?_
  ·simp only [zz] at hc
   (try simp only [cm0 c] at hc)
   (try simp only [zz] at hc)
   have e2 := hc
   repeat' first | refine zx ?_ | apply zn
   repeat' apply zn
   refine zAx (σ := Nat × Bool) (fun y => St.of [(1, .one (.ptr 1 0 0)), (5, .v (.bool y.2)), (159, .one (.e (.sl (c.ro.map zBw)))), (160, .one (.e (eI ((c.ro.map zBw).length : Int)))), (161, .one (.e (eI (y.1 : Int)))), ((1000000 + 5), .one (.eptr fsE)), ((1000000 + 6), .one (.eptr acE))] [(1, ⟨0, .box (.es (zBC c)), 0⟩)]) (fun y => (y.2 && (c.ro.drop y.1).all vlB) = okB c /\ y.1 <= c.ro.length) (fun y => c.ro.length - y.1) ((0, bif (bif bif bif decide (zC2 c.tb) then decide (0 <= c.ow) else false then decide (0 <= c.dr) else false then decide (0 <= c.to) else false) then decide (0 < ((c.ro.map zBw).length : Int)) else false)) (zAh (ad := []) (by refine ⟨?_, ?_, ?_, ?_, ?_, ?_, ?_, trivial⟩ <;> first | exact trivial | rfl | exact ⟨rfl, rfl⟩ | exact ⟨rfl, rfl, rfl⟩ | exact ⟨rfl, rfl, rfl, rfl⟩ | exact ⟨rfl, rfl, rfl, rfl, rfl⟩ | exact congrArg (fun z : Int => E.v (.int .i64 z)) (zAf (by omega) (by omega)) | (refine ⟨rfl, ?_⟩; repeat' first | exact trivial | rfl | apply And.intro)) zm) ⟨by rw [hP, l2]; unfold okB; rw [if_neg e1, if_pos e2]; simp only [zCn, List.drop_zero, Bool.and_assoc]; congr 2; exact decide_eq_decide.2 (by omega), Nat.zero_le _⟩ ?_
   rintro ⟨i, b⟩ ⟨hb, il⟩
   dsimp only at hb il ⊢
   repeat' first | refine zx ?_ | fail
   refine zc (fun hc => ?_) fun hc => ?_
   ·simp only [zz] at hc
    (try simp only [l2] at hc)
    (try simp only [zz] at hc)
    have hlt : i < c.ro.length := by omega
    have hg := zOf c.ro i hlt
    have hok := h.ro _ (zQA (d := zBD) hlt)
    rw [zAS (d := zBD) hlt, List.all_cons, <-Bool.and_assoc] at hb
    refine zy ?_ ?_
    ·rw [Int.toNat_natCast, hg]
     exact zza
    rw [Int.toNat_natCast, hg]
    generalize c.ro.getD i zBD = v at *
    have h3 := zMu v hok
    have h64 : IntKind.i64.wrap ((i : Int) + 1) = ((i + 1 : Nat) : Int) := zAf (by omega) (by omega)
    refine zAq (s' := St.of [(1, .one (.ptr 1 0 0)), (5, .v (.bool b)), (9, .one (.ptr 9 0 0)), (159, .one (.e (.sl (c.ro.map zBw)))), (160, .one (.e (eI ((c.ro.map zBw).length : Int)))), (161, .one (.e (eI (i : Int)))), ((1000000 + 5), .one (.eptr fsE)), ((1000000 + 6), .one (.eptr acE))] [(1, ⟨0, .box (.es (zBC c)), 0⟩), (9, ⟨0, .box (.es (zBw v)), 0⟩)]) (zAh (ad := []) (by refine ⟨?_, ?_, ?_, ?_, ?_, ?_, ?_, ?_, trivial⟩ <;> first | exact trivial | rfl | exact ⟨rfl, rfl⟩ | exact ⟨rfl, rfl, rfl⟩ | exact ⟨rfl, rfl, rfl, rfl⟩ | exact ⟨rfl, rfl, rfl, rfl, rfl⟩ | exact congrArg (fun z : Int => E.v (.int .i64 z)) (zAf (by omega) (by omega)) | (refine ⟨rfl, ?_⟩; repeat' first | exact trivial | rfl | apply And.intro)) zm) ?_
    repeat' apply zn
    refine zAa (zzx hnt rfl ?_ (callVG rfl rfl rfl rfl rfl rfl hnt rfl (fun hq => ?_) rfl (fun hq => h3) (zzx hnt rfl ?_ (Lex.nil _)))) ?_
    ·exact zza
    ·exact zza
    ·exact zza
    have hv2 : (bif (bif b then decide (chk v = 0) else false) then !decide (v.i = -9223372036854775808) else false) = (b && vlB v) := by
     unfold vlB
     rw [Bool.decide_and]
     cases b <;> cases decide (chk v = 0) <;> simp
    repeat' first | refine zx ?_ | apply zn
    rw [h64]
    refine ⟨(i + 1, bif (bif b then decide (chk v = 0) else false) then !decide (v.i = -9223372036854775808) else false), ⟨by dsimp only; rw [hv2]; exact hb, by dsimp only; omega⟩, by dsimp only; omega, zAh (ad := []) (by refine ⟨?_, ?_, ?_, ?_, ?_, ?_, ?_, trivial⟩ <;> first | exact trivial | rfl | exact ⟨rfl, rfl⟩ | exact ⟨rfl, rfl, rfl⟩ | exact ⟨rfl, rfl, rfl, rfl⟩ | exact ⟨rfl, rfl, rfl, rfl, rfl⟩ | exact congrArg (fun z : Int => E.v (.int .i64 z)) (zAf (by omega) (by omega)) | (refine ⟨rfl, ?_⟩; repeat' first | exact trivial | rfl | apply And.intro)) zm⟩
   simp only [zz] at hc
   (try simp only [l2] at hc)
   (try simp only [zz] at hc)
   refine zAt ?_
   rw [List.drop_eq_nil_of_le (by omega), List.all_nil, Bool.and_true] at hb
   repeat' first | refine zx ?_ | apply zn
   repeat' apply zn
   refine ⟨({ c with ro := [] }, b), ⟨by unfold lfC; rw [if_neg e1, if_pos e2], hb⟩, zAh (ad := []) (by refine ⟨?_, ?_, ?_, ?_, trivial⟩ <;> first | exact trivial | rfl | exact ⟨rfl, rfl⟩ | exact ⟨rfl, rfl, rfl⟩ | exact ⟨rfl, rfl, rfl, rfl⟩ | exact ⟨rfl, rfl, rfl, rfl, rfl⟩ | exact congrArg (fun z : Int => E.v (.int .i64 z)) (zAf (by omega) (by omega)) | (refine ⟨rfl, ?_⟩; repeat' first | exact trivial | rfl | apply And.intro)) (zAg rfl rfl (by repeat' first | exact trivial | exact rfl | exact congrArg E.sl (zBz []) | refine ⟨?_, ?_⟩) trivial)⟩
  simp only [zz] at hc
  (try simp only [cm0 c] at hc)
  (try simp only [zz] at hc)
  have e2 := hc
  have hw := zGM c.wh h.wh
  rw [<-cmW c] at hw
  repeat' first | refine zx ?_ | fail
  refine zc (fun hc => ?_) fun hc => ?_
  ·simp only [zz] at hc
   (try simp only [cm0 c] at hc)
   (try simp only [zz] at hc)
   have e3 := hc
   repeat' apply zn
   refine zAa (zzx hnt rfl ?_ (callVG rfl rfl rfl rfl rfl rfl hnt rfl (fun hq => ?_) rfl (fun hq => hw) (zzx hnt rfl ?_ (Lex.nil _)))) ?_
   ·exact zza
   ·exact zza
   ·exact zza
   repeat' first | refine zx ?_ | apply zn
   repeat' apply zn
   refine zAx (σ := Nat × Bool) (fun y => St.of [(1, .one (.ptr 1 0 0)), (5, .v (.bool y.2)), (193, .one (.e (.sl (c.ss.map zCe)))), (194, .one (.e (eI ((c.ss.map zCe).length : Int)))), (195, .one (.e (eI (y.1 : Int)))), ((1000000 + 5), .one (.eptr fsE)), ((1000000 + 6), .one (.eptr acE))] [(1, ⟨0, .box (.es (zBC c)), 0⟩)]) (fun y => (y.2 && (c.ss.drop y.1).all stB) = okB c /\ y.1 <= c.ss.length) (fun y => c.ss.length - y.1) ((0, bif bif (bif bif bif decide (zC2 c.tb) then decide (0 <= c.ow) else false then decide (0 <= c.dr) else false then decide (0 <= c.to) else false) then decide (0 < ((c.ss.map zCe).length : Int)) else false then decide (cdP c.wh) else false)) (zAh (ad := []) (by refine ⟨?_, ?_, ?_, ?_, ?_, ?_, ?_, trivial⟩ <;> first | exact trivial | rfl | exact ⟨rfl, rfl⟩ | exact ⟨rfl, rfl, rfl⟩ | exact ⟨rfl, rfl, rfl, rfl⟩ | exact ⟨rfl, rfl, rfl, rfl, rfl⟩ | exact congrArg (fun z : Int => E.v (.int .i64 z)) (zAf (by omega) (by omega)) | (refine ⟨rfl, ?_⟩; repeat' first | exact trivial | rfl | apply And.intro)) zm) ⟨by rw [hP, l3]; unfold okB; rw [if_neg e1, if_neg e2, if_pos e3]; simp only [zCn, List.drop_zero, Bool.and_assoc]; congr 2; exact decide_eq_decide.2 (by omega), Nat.zero_le _⟩ ?_
   rintro ⟨i, b⟩ ⟨hb, il⟩
   dsimp only at hb il ⊢
   repeat' first | refine zx ?_ | fail
   refine zc (fun hc => ?_) fun hc => ?_
   ·simp only [zz] at hc
    (try simp only [l3] at hc)
    (try simp only [zz] at hc)
    have hlt : i < c.ss.length := by omega
    have hg := zJu c.ss i hlt
    have hok := h.ss _ (zQA (d := zLS) hlt)
    rw [zAS (d := zLS) hlt, List.all_cons, <-Bool.and_assoc] at hb
    refine zy ?_ ?_
    ·rw [Int.toNat_natCast, hg]
     exact zza
    rw [Int.toNat_natCast, hg]
    generalize c.ss.getD i zLS = s at *
    have h3 := zEg s.c hok.1
    have h4 := zD5 s.x hok.2
    rw [<-seX s] at h4
    have h64 : IntKind.i64.wrap ((i : Int) + 1) = ((i + 1 : Nat) : Int) := zAf (by omega) (by omega)
    refine zAq (s' := St.of [(1, .one (.ptr 1 0 0)), (5, .v (.bool b)), (11, .one (.ptr 11 0 0)), (193, .one (.e (.sl (c.ss.map zCe)))), (194, .one (.e (eI ((c.ss.map zCe).length : Int)))), (195, .one (.e (eI (i : Int)))), ((1000000 + 5), .one (.eptr fsE)), ((1000000 + 6), .one (.eptr acE))] [(1, ⟨0, .box (.es (zBC c)), 0⟩), (11, ⟨0, .box (.es (zCe s)), 0⟩)]) (zAh (ad := []) (by refine ⟨?_, ?_, ?_, ?_, ?_, ?_, ?_, ?_, trivial⟩ <;> first | exact trivial | rfl | exact ⟨rfl, rfl⟩ | exact ⟨rfl, rfl, rfl⟩ | exact ⟨rfl, rfl, rfl, rfl⟩ | exact ⟨rfl, rfl, rfl, rfl, rfl⟩ | exact congrArg (fun z : Int => E.v (.int .i64 z)) (zAf (by omega) (by omega)) | (refine ⟨rfl, ?_⟩; repeat' first | exact trivial | rfl | apply And.intro)) zm) ?_
    repeat' apply zn
    refine zAa (zzx hnt rfl ?_ (callG rfl rfl rfl rfl rfl rfl hnt rfl (fun hq => ?_) (fun hq => h3) (zzx hnt rfl ?_ (callVG rfl rfl rfl rfl rfl rfl hnt rfl (fun hq => ?_) rfl (fun hq => h4) (zzx hnt rfl ?_ (Lex.nil _)))))) ?_
    ·exact zza
    ·exact zza
    ·exact zza
    ·exact zza
    ·exact zza
    have hv2 : (bif (bif b then decide (zC2 s.c) else false) then decide (exF s.x = 0) else false) = (b && stB s) := by
     unfold stB
     rw [Bool.decide_and]
     cases b <;> cases decide (zC2 s.c) <;> rfl
    repeat' first | refine zx ?_ | apply zn
    rw [h64]
    refine ⟨(i + 1, bif (bif b then decide (zC2 s.c) else false) then decide (exF s.x = 0) else false), ⟨by dsimp only; rw [hv2]; exact hb, by dsimp only; omega⟩, by dsimp only; omega, zAh (ad := []) (by refine ⟨?_, ?_, ?_, ?_, ?_, ?_, ?_, trivial⟩ <;> first | exact trivial | rfl | exact ⟨rfl, rfl⟩ | exact ⟨rfl, rfl, rfl⟩ | exact ⟨rfl, rfl, rfl, rfl⟩ | exact ⟨rfl, rfl, rfl, rfl, rfl⟩ | exact congrArg (fun z : Int => E.v (.int .i64 z)) (zAf (by omega) (by omega)) | (refine ⟨rfl, ?_⟩; repeat' first | exact trivial | rfl | apply And.intro)) zm⟩
   simp only [zz] at hc
   (try simp only [l3] at hc)
   (try simp only [zz] at hc)
   refine zAt ?_
   rw [List.drop_eq_nil_of_le (by omega), List.all_nil, Bool.and_true] at hb
   repeat' first | refine zx ?_ | apply zn
   repeat' apply zn
   refine ⟨({ c with ss := [], wh := ex0 }, b), ⟨by unfold lfC; rw [if_neg e1, if_neg e2, if_pos e3], hb⟩, zAh (ad := []) (by refine ⟨?_, ?_, ?_, ?_, trivial⟩ <;> first | exact trivial | rfl | exact ⟨rfl, rfl⟩ | exact ⟨rfl, rfl, rfl⟩ | exact ⟨rfl, rfl, rfl, rfl⟩ | exact ⟨rfl, rfl, rfl, rfl, rfl⟩ | exact congrArg (fun z : Int => E.v (.int .i64 z)) (zAf (by omega) (by omega)) | (refine ⟨rfl, ?_⟩; repeat' first | exact trivial | rfl | apply And.intro)) (zAg rfl rfl (by repeat' first | exact trivial | exact rfl | exact congrArg E.sl (zBz []) | refine ⟨?_, ?_⟩) trivial)⟩
  simp only [zz] at hc
  (try simp only [cm0 c] at hc)
  (try simp only [zz] at hc)
  have e3 := hc
  repeat' first | refine zx ?_ | fail
  refine zc (fun hc => ?_) fun hc => ?_
  ·simp only [zz] at hc
   (try simp only [cm0 c] at hc)
   (try simp only [zz] at hc)
   have e4 := hc
   repeat' apply zn
   refine zAa (zzx hnt rfl ?_ (callVG rfl rfl rfl rfl rfl rfl hnt rfl (fun hq => ?_) rfl (fun hq => hw) (zzx hnt rfl ?_ (Lex.nil _)))) ?_
   ·exact zza
   ·exact zza
   ·exact zza
   repeat' first | refine zx ?_ | apply zn
   repeat' apply zn
   refine ⟨({ c with wh := ex0 }, bif (bif bif bif decide (zC2 c.tb) then decide (0 <= c.ow) else false then decide (0 <= c.dr) else false then decide (0 <= c.to) else false) then decide (cdP c.wh) else false), ⟨by unfold lfC; rw [if_neg e1, if_neg e2, if_neg e3, if_pos e4], by dsimp only; rw [hP]; unfold okB; rw [if_neg e1, if_neg e2, if_neg e3, if_pos e4, zCn]⟩, zAh (ad := []) (by refine ⟨?_, ?_, ?_, ?_, trivial⟩ <;> first | exact trivial | rfl | exact ⟨rfl, rfl⟩ | exact ⟨rfl, rfl, rfl⟩ | exact ⟨rfl, rfl, rfl, rfl⟩ | exact ⟨rfl, rfl, rfl, rfl, rfl⟩ | exact congrArg (fun z : Int => E.v (.int .i64 z)) (zAf (by omega) (by omega)) | (refine ⟨rfl, ?_⟩; repeat' first | exact trivial | rfl | apply And.intro)) (zAg rfl rfl (by repeat' first | exact trivial | exact rfl | exact congrArg E.sl (zBz []) | refine ⟨?_, ?_⟩) trivial)⟩
  simp only [zz] at hc
  (try simp only [cm0 c] at hc)
  (try simp only [zz] at hc)
  have e4 := hc
  repeat' first | refine zx ?_ | fail
  refine zc (fun hc => ?_) fun hc => ?_
  ·simp only [zz] at hc
   (try simp only [cm0 c] at hc)
   (try simp only [zz] at hc)
   have e5 := hc
   have hmq := zK2 c.q h.q h.g
   rw [<-cmQ c] at hmq
   repeat' apply zn
   refine zAa (zzx hnt rfl ?_ (callVG rfl rfl rfl rfl rfl rfl hnt rfl (fun hq => ?_) rfl (fun hq => hmq) (zzx hnt rfl ?_ (Lex.nil _)))) ?_
   ·exact zza
   ·exact zza
   ·exact zza
   repeat' first | refine zx ?_ | apply zn
   repeat' apply zn
   refine ⟨({ c with q := zT7 }, bif bif (bif bif bif decide (zC2 c.tb) then decide (0 <= c.ow) else false then decide (0 <= c.dr) else false then decide (0 <= c.to) else false) then asB c.q else false then decide (c.dr = 0) else false), ⟨by unfold lfC; rw [if_neg e1, if_neg e2, if_neg e3, if_neg e4, if_pos e5], by dsimp only; rw [hP]; unfold okB; rw [if_neg e1, if_neg e2, if_neg e3, if_neg e4, if_pos e5, zCn, zCn, Bool.and_assoc]⟩, zAh (ad := []) (by refine ⟨?_, ?_, ?_, ?_, trivial⟩ <;> first | exact trivial | rfl | exact ⟨rfl, rfl⟩ | exact ⟨rfl, rfl, rfl⟩ | exact ⟨rfl, rfl, rfl, rfl⟩ | exact ⟨rfl, rfl, rfl, rfl, rfl⟩ | exact congrArg (fun z : Int => E.v (.int .i64 z)) (zAf (by omega) (by omega)) | (refine ⟨rfl, ?_⟩; repeat' first | exact trivial | rfl | apply And.intro)) (zAg rfl rfl (by repeat' first | exact trivial | exact rfl | exact congrArg E.sl (zBz []) | refine ⟨?_, ?_⟩) trivial)⟩
  simp only [zz] at hc
  (try simp only [cm0 c] at hc)
  (try simp only [zz] at hc)
  have e5 := hc
  repeat' first | refine zx ?_ | apply zn
  repeat' apply zn
  refine ⟨({ c with to := 0, rt := 0, op := false }, bif bif (bif bif bif decide (zC2 c.tb) then decide (0 <= c.ow) else false then decide (0 <= c.dr) else false then decide (0 <= c.to) else false) then (bif decide (c.rt = 1) then true else decide (c.rt = 2)) else false then (bif decide (c.k = 6) then true else !c.op) else false), ⟨by unfold lfC; rw [if_neg e1, if_neg e2, if_neg e3, if_neg e4, if_neg e5], by dsimp only; rw [hP]; unfold okB; rw [if_neg e1, if_neg e2, if_neg e3, if_neg e4, if_neg e5, zCn, zCn, Bool.and_assoc, Bool.decide_or]; cases decide (c.rt = 1) <;> cases decide (c.k = 6) <;> rfl⟩, zAh (ad := []) (by refine ⟨?_, ?_, ?_, ?_, trivial⟩ <;> first | exact trivial | rfl | exact ⟨rfl, rfl⟩ | exact ⟨rfl, rfl, rfl⟩ | exact ⟨rfl, rfl, rfl, rfl⟩ | exact ⟨rfl, rfl, rfl, rfl, rfl⟩ | exact congrArg (fun z : Int => E.v (.int .i64 z)) (zAf (by omega) (by omega)) | (refine ⟨rfl, ?_⟩; repeat' first | exact trivial | rfl | apply And.intro)) (zAg rfl rfl (by repeat' first | exact trivial | exact rfl | exact congrArg E.sl (zBz []) | refine ⟨?_, ?_⟩) trivial)⟩
 rintro ⟨c1, b⟩ ⟨h1, h2⟩
 dsimp only at h1 h2 ⊢
 rw [<-h1, <-h2]
 clear h1 h2 hP hnm l1 l2 l3 l4 l5 hxl
 have l1 := zFL c1.cs
 have l2 := zHH c1.ro
 have l3 := zGD c1.ss
 have h1 := zE7 c1.wh
 have h2 := zNj c1.q
 rw [<-cmW c1] at h1
 rw [<-cmQ c1] at h2
 repeat' apply zn
 refine zAa (zzx hnt rfl ?_ (callG rfl rfl rfl rfl rfl rfl hnt rfl (fun hq => ?_) (fun hq => h1) (zzx hnt rfl ?_ (callG rfl rfl rfl rfl rfl rfl hnt rfl (fun hq => ?_) (fun hq => h2) (zzx hnt rfl ?_ (Lex.nil _)))))) ?_
 ·exact zza
 ·exact zza
 ·exact zza
 ·exact zza
 ·exact zza
 have hF : (bif bif bif bif bif bif bif bif !b then true else decide (0 < ((c1.cs.map zCm).length : Int)) then true else decide (0 < ((c1.ro.map zBw).length : Int)) then true else decide (0 < ((c1.ss.map zCe).length : Int)) then true else !decide (noC c1.wh) then true else !(!decide (zKu c1.q)) then true else !decide (c1.to = 0) then true else !decide (c1.rt = 0) then true else c1.op) = !(b && !decide (lfP c1)) := by
  rw [l1, l2, l3, Bool.eq_iff_iff]
  cases b with
  | false => simp
  | true =>
   rw [Bool.true_and]
   simp only [Bool.not_not, zEt, zAr, zAs, zGp, zBm, zBp, decide_eq_true_eq, decide_eq_false_iff_not]
   unfold lfP
   simp only [reduceCtorEq, false_or, Int.natCast_pos, ne_eq]
 refine zc (fun hc => ?_) fun hc => ?_
 ·have hc : (bif bif bif bif bif bif bif bif !b then true else decide (0 < ((c1.cs.map zCm).length : Int)) then true else decide (0 < ((c1.ro.map zBw).length : Int)) then true else decide (0 < ((c1.ss.map zCe).length : Int)) then true else !decide (noC c1.wh) then true else !(!decide (zKu c1.q)) then true else !decide (c1.to = 0) then true else !decide (c1.rt = 0) then true else c1.op) = true := hc
  rw [hF, Bool.not_eq_true'] at hc
  rw [if_pos hc]
  repeat' first | refine zx ?_ | apply zn
  exact zAb ⟨.inr rfl, _, _, rfl, trivial, rfl⟩
 have hc : (bif bif bif bif bif bif bif bif !b then true else decide (0 < ((c1.cs.map zCm).length : Int)) then true else decide (0 < ((c1.ro.map zBw).length : Int)) then true else decide (0 < ((c1.ss.map zCe).length : Int)) then true else !decide (noC c1.wh) then true else !(!decide (zKu c1.q)) then true else !decide (c1.to = 0) then true else !decide (c1.rt = 0) then true else c1.op) = false := hc
 rw [hF, Bool.not_eq_false'] at hc
 rw [if_neg (by rw [hc]; decide)]
 repeat' first | refine zx ?_ | apply zn
 exact zAb ⟨.inr rfl, _, _, rfl, trivial, rfl⟩
end Go.Proofs.YtcdifgacoleckaaGreatDoor
