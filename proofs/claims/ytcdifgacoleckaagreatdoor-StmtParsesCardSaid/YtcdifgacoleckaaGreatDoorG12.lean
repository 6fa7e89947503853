/- Part of the proof: steps of the program over abstract states. No condition. -/
import Derived.Test.YtcdifgacoleckaaGreatDoorG06
import Derived.Test.YtcdifgacoleckaaGreatDoorG10
import Derived.Test.YtcdifgacoleckaaGreatDoorG11
set_option linter.unusedVariables false
set_option linter.unusedSimpArgs false
namespace Go.Proofs.YtcdifgacoleckaaGreatDoor
open Go Go.RowKit Go.Proofs.YtcdifgacoleckaaGreatDoor.Ab
set_option maxRecDepth 100000
set_option maxHeartbeats 4000000
def bdC (c : Cmd) : List D0 := [.e (eI c.k), .e (eI c.ow), .e (eT c.tb), .e (eI c.dr), .own 900001 0, .own 900002 0, .own 900003 0, .e (eI c.wh.op), .e (eI c.wh.v.k), .e (eI c.wh.v.i), .e (eQ c.wh.v.b), .e (eT c.wh.v.t), .e (eT c.wh.n), .e (.sl (zBv c.wh.ar)), .own 900004 0, .e (eI c.q.w.op), .e (eI c.q.w.v.k), .e (eI c.q.w.v.i), .e (eQ c.q.w.v.b), .e (eT c.q.w.v.t), .e (eT c.q.w.n), .e (.sl (zBv c.q.w.ar)), .e (eT c.q.g), .own 900005 0, .e (eBl c.q.c), .e (eI c.q.m), .e (eI c.to), .e (eI c.rt), .e (eBl c.op)]
def rwC (c : Cmd) : List (Nat × Blk) := [(900001, ⟨0, .row 3 (c.cs.map zCm), 0⟩), (900002, ⟨0, .row 4 (c.ro.map zBw), 0⟩), (900003, ⟨0, .row 8 (c.ss.map zCe), 0⟩), (900004, ⟨0, .row 8 (c.q.is.map zBP), 0⟩), (900005, ⟨0, .row 2 (c.q.ss.map zC3), 0⟩)]
def mdC (c : Cmd) : List (Nat × Blk) := (900000, ⟨0, .box (.ds (bdC c)), 0⟩) :: rwC c
def bxC (l : List Tok) (p : Nat) (c : Cmd) : List D0 := .e (zFU l) :: .e (eI (p : Int)) :: bdC c
def msC (l : List Tok) (p : Nat) (c : Cmd) : List (Nat × Blk) := (900000, ⟨0, .box (.ds (bxC l p c)), 0⟩) :: rwC c
theorem zAX {l : List Tok} {p : Nat} {e : Int} {ts : List Tok} (h : e ≠ 0) : zAk l ⟨p, e⟩ ts = ⟨p, e⟩ := zBJ h
theorem zAI {l : List Tok} {p : Nat} {e : Int} {k : Int} (h : e ≠ 0) (hk : k ≠ 0) : zBl l ⟨p, e⟩ k = (zBj, ⟨p, e⟩) := by
 unfold zBl
 rw [if_neg (by rw [zFb h]; exact fun q => hk q.symm)]
 unfold zBQ
 rw [if_neg h]
def gY : List (Nat × List E) := [(3, spE), (5, fsE), (6, acE)]
def zRp : Tok := sgT [46]
def zKD : Tok := wdT [68, 82, 65, 87, 69, 82]
def zJp (l : List Tok) (c : Cmd) (s : Spot) : Cmd × Spot :=
 ({ c with ow := (zBl l s 3).1.i, tb := (zBl l (zAk l (zBl l s 3).2 [zRp]) 1).1.t }, (zBl l (zAk l (zBl l s 3).2 [zRp]) 1).2)
def zHw (l : List Tok) (c : Cmd) (s : Spot) : Cmd × Spot :=
 ({ (zJp l c s).1 with dr := (zBl l (zAk l (zJp l c s).2 [zKD]) 3).1.i }, (zBl l (zAk l (zJp l c s).2 [zKD]) 3).2)
theorem zK5 {q : Prop} [Decidable q] (a b : Cmd) (s : Spot) : (if q then (a, s) else (b, s)).2 = s := by split <;> rfl
theorem zFp : (1 : Int) ≠ 0 := by decide
theorem zBV : (3 : Int) ≠ 0 := by decide
theorem zNf (l : List Tok) (ho : zAW l) (p : Nat) (k : Int) (hk0 : k ≠ 0) (u : Nat -> Value) : zEU Tryz.prog [(900000, 31)] 46 gK (bQ l p u) [ptS, .one (.e (eI k))] ((zBl l ⟨p, 0⟩ k).2.e = 0) (.agg (.es (zBO (zBl l ⟨p, 0⟩ k).1))) (bQ l (zBl l ⟨p, 0⟩ k).2.p u) (chT (zBl l ⟨p, 0⟩ k).2) := zXj l ho p u k hk0
theorem zHr (l : List Tok) (ho : zAW l) (p : Nat) (t : Tok) (b : Byt) (ht : t = sgT b) (u : Nat -> Value) : zEU Tryz.prog [(900000, 31)] 47 [] (bQ l p u) [ptS, .one (.e (eT b))] ((zAk l ⟨p, 0⟩ [t]).e = 0) (.tup []) (bQ l (zAk l ⟨p, 0⟩ [t]).p u) (chT (zAk l ⟨p, 0⟩ [t])) := ht ▸ zVH l ho.1 p u b
theorem zC5 (l : List Tok) (ho : zAW l) (p : Nat) (t : Tok) (b : Byt) (ht : t = wdT b) (hF : Fld b [b]) (u : Nat -> Value) : zEU Tryz.prog [(900000, 31)] 45 [(3, spE)] (bQ l p u) [ptS, .one (.e (eT b))] ((zAk l ⟨p, 0⟩ [t]).e = 0) (.tup []) (bQ l (zAk l ⟨p, 0⟩ [t]).p u) (chT (zAk l ⟨p, 0⟩ [t])) := ht ▸ zTz l ho.1 p u b hF
theorem zWh : Fld [68, 82, 65, 87, 69, 82] [[68, 82, 65, 87, 69, 82]] := zzF
def ofF (l : List Tok) (d : Bool) (c : Cmd) (s : Spot) : Cmd × Spot := if d = true then zHw l c s else zJp l c s
theorem ofT (l : List Tok) (ho : zAW l) (p : Nat) (c : Cmd) (d : Bool) : zEU Tryz.prog [(900000, 31)] 50 (gY) (msC l p c) [ptS, .one (.e (eBl d))] ((ofF l d c ⟨p, 0⟩).2.e = 0) (.tup []) (msC l (ofF l d c ⟨p, 0⟩).2.p (ofF l d c ⟨p, 0⟩).1) (chT (ofF l d c ⟨p, 0⟩).2) := by
 refine zFX 36 Tryz.func50 fun X hnt => ?_
 unfold ofF zHw zJp
 have h1 := zNf l ho p 3 (by decide)
 generalize zBl l ⟨p, 0⟩ 3 = A at h1 ⊢
 obtain ⟨t1, p1, e1⟩ := A
 dsimp only at h1 ⊢
 by_cases he : e1 = 0
 ·subst he
  refine zQ 900000 mk2 (fun u => (h1 u).1 rfl) ?_
  clear h1
  refine zAq (s' := St.of [(0, .one (.ptr 900000 0 0)), (1, .one (.e (eBl d))), (900000, .one (.ptr 900000 0 0)) , (1000003, .one (.eptr spE)), (1000005, .one (.eptr fsE)), (1000006, .one (.eptr acE))] (msC l p1 ({ c with ow := t1.i }))) zle ?_
  have h1 := zHr l ho p1 zRp [46] rfl
  generalize (zAk l ⟨p1, 0⟩ [zRp]) = A at h1 ⊢
  obtain ⟨p2, e1⟩ := A
  dsimp only at h1 ⊢
  by_cases he : e1 = 0
  ·subst he
   refine zQ 900000 mk2 (fun u => (h1 u).1 rfl) ?_
   clear h1
   refine zAq (s' := St.of [(0, .one (.ptr 900000 0 0)), (1, .one (.e (eBl d))), (900000, .one (.ptr 900000 0 0)) , (1000003, .one (.eptr spE)), (1000005, .one (.eptr fsE)), (1000006, .one (.eptr acE))] (msC l p2 ({ c with ow := t1.i }))) zle ?_
   have h1 := zNf l ho p2 1 (by decide)
   generalize zBl l ⟨p2, 0⟩ 1 = A at h1 ⊢
   obtain ⟨t2, p3, e1⟩ := A
   dsimp only at h1 ⊢
   by_cases he : e1 = 0
   ·subst he
    refine zQ 900000 mk2 (fun u => (h1 u).1 rfl) ?_
    clear h1
    refine zAq (s' := St.of [(0, .one (.ptr 900000 0 0)), (1, .one (.e (eBl d))), (900000, .one (.ptr 900000 0 0)) , (1000003, .one (.eptr spE)), (1000005, .one (.eptr fsE)), (1000006, .one (.eptr acE))] (msC l p3 ({ c with ow := t1.i, tb := t2.t }))) zle ?_
    cases d with
    | false =>
     rw [if_neg Bool.noConfusion]
     repeat' first | refine zx ?_ | fail
     refine zc (fun hc => ?_) fun hc => ?_
     ·exact absurd hc Bool.noConfusion
     repeat' apply zn
     exact ⟨fun _ => ⟨.inl rfl, _, _, _, rfl, zzp, rfl, fun X => zle⟩, fun hh => absurd rfl hh⟩
    | true =>
     rw [if_pos rfl]
     repeat' first | refine zx ?_ | fail
     refine zc (fun hc => ?_) fun hc => ?_
     ·have h1 := zC5 l ho p3 zKD [68, 82, 65, 87, 69, 82] rfl zWh
      generalize (zAk l ⟨p3, 0⟩ [zKD]) = A at h1 ⊢
      obtain ⟨p4, e1⟩ := A
      dsimp only at h1 ⊢
      by_cases he : e1 = 0
      ·subst he
       refine zQ 900000 mk2 (fun u => (h1 u).1 rfl) ?_
       clear h1
       refine zAq (s' := St.of [(0, .one (.ptr 900000 0 0)), (900000, .one (.ptr 900000 0 0)) , (1000003, .one (.eptr spE)), (1000005, .one (.eptr fsE)), (1000006, .one (.eptr acE))] (msC l p4 ({ c with ow := t1.i, tb := t2.t }))) zle ?_
       have h1 := zNf l ho p4 3 (by decide)
       generalize zBl l ⟨p4, 0⟩ 3 = A at h1 ⊢
       obtain ⟨t3, p5, e1⟩ := A
       dsimp only at h1 ⊢
       by_cases he : e1 = 0
       ·subst he
        refine zQ 900000 mk2 (fun u => (h1 u).1 rfl) ?_
        clear h1
        exact ⟨fun _ => ⟨.inl rfl, _, _, _, rfl, zzp, rfl, fun X => zle⟩, fun hh => absurd rfl hh⟩
       try simp only [zAX he, zAI he zFp, zAI he zBV, zK5]
       refine zPQ 4 900000 mk2 (fun u => (h1 u).2 he) fun _ => ?_
       exact ⟨fun hh => absurd hh he, fun _ => ⟨rfl, zAv rfl rfl rfl⟩⟩
      try simp only [zAX he, zAI he zFp, zAI he zBV, zK5]
      refine zPQ 1 900000 mk2 (fun u => (h1 u).2 he) fun _ => ?_
      exact ⟨fun hh => absurd hh he, fun _ => ⟨rfl, zAv rfl rfl rfl⟩⟩
     exact absurd hc Bool.noConfusion
   try simp only [zAX he, zAI he zFp, zAI he zBV, zK5]
   refine zPQ 4 900000 mk2 (fun u => (h1 u).2 he) fun _ => ?_
   exact ⟨fun hh => absurd hh he, fun _ => ⟨rfl, zAv rfl rfl rfl⟩⟩
  try simp only [zAX he, zAI he zFp, zAI he zBV, zK5]
  refine zPQ 1 900000 mk2 (fun u => (h1 u).2 he) fun _ => ?_
  exact ⟨fun hh => absurd hh he, fun _ => ⟨rfl, zAv rfl rfl rfl⟩⟩
 try simp only [zAX he, zAI he zFp, zAI he zBV, zK5]
 refine zPQ 4 900000 mk2 (fun u => (h1 u).2 he) fun _ => ?_
 exact ⟨fun hh => absurd hh he, fun _ => ⟨rfl, zAv rfl rfl rfl⟩⟩
def ooF (l : List Tok) (s : Spot) : Int -> List Byt -> Int × Spot
 | _, [] => (0, zBQ l s)
 | i, w :: r => if w ≠ [] /\ zAc l s (wdT w) = true then (i, ⟨s.p + 1, s.e⟩) else ooF l s (i + 1) r
def zKA : Tok := wdT [79, 78]
def rwW : List Byt := [[], [82, 69, 65, 68], [87, 82, 73, 84, 69]]
def zIl (l : List Tok) (c : Cmd) (s : Spot) : Cmd × Spot :=
 zHw l { c with rt := (ooF l s 0 rwW).1 } (zAk l (ooF l s 0 rwW).2 [zKA])
theorem zPg {l : List Tok} {c : Cmd} {p : Nat} {e : Int} (h : e ≠ 0) : (zHw l c ⟨p, e⟩).2 = ⟨p, e⟩ := by
 unfold zHw zJp
 simp only [zAX h, zAI h zFp, zAI h zBV]
theorem zWU : Fld [79, 78] [[79, 78]] := zzF
theorem ofU (l : List Tok) (ho : zAW l) (p : Nat) (c : Cmd) : zEU Tryz.prog [(900000, 31)] 50 gY (msC l p c) [ptS, .one (.e (eBl true))] ((zHw l c ⟨p, 0⟩).2.e = 0) (.tup []) (msC l (zHw l c ⟨p, 0⟩).2.p (zHw l c ⟨p, 0⟩).1) (chT (zHw l c ⟨p, 0⟩).2) := ofT l ho p c true
theorem zTY (l : List Tok) (ho : zAW l) (p : Nat) (c : Cmd) : zEU Tryz.prog [(900000, 31)] 85 (gY) (msC l p c) [ptS] ((zIl l c ⟨p, 0⟩).2.e = 0) (.tup []) (msC l (zIl l c ⟨p, 0⟩).2.p (zIl l c ⟨p, 0⟩).1) (chT (zIl l c ⟨p, 0⟩).2) := by
 refine zFX 28 Tryz.func85 fun X hnt => ?_
 unfold zIl
 refine zDI (zBy (σ := Int × Nat) (fun x => St.of [(0, .one (.ptr 900000 0 0)), (900000, .one (.ptr 900000 0 0)) , (1000003, .one (.eptr spE)), (1000005, .one (.eptr fsE)), (1000006, .one (.eptr acE))] (msC l x.2 { c with rt := x.1 })) (fun x => ooF l ⟨p, 0⟩ 0 rwW = (x.1, ⟨x.2, 0⟩)) ?_ ?_)
 ·have hx : ooF l ⟨p, 0⟩ 0 rwW = if zAc l ⟨p, 0⟩ ⟨2, [82, 69, 65, 68], 0, 0⟩ = true then (1, ⟨p + 1, 0⟩) else if zAc l ⟨p, 0⟩ ⟨2, [87, 82, 73, 84, 69], 0, 0⟩ = true then (2, ⟨p + 1, 0⟩) else (0, zBQ l ⟨p, 0⟩) := by
   simp [ooF, rwW, wdT]
  have hk := fun u => zCg l ho.1 p u 2 [82,69,65,68]
  refine zQ 900000 mk2 hk ?_
  clear hk
  cases hs : zAc l ⟨p, 0⟩ ⟨2, [82, 69, 65, 68], 0, 0⟩ with
  | true =>
   rw [hs, if_pos rfl] at hx
   refine zc (fun hc => ?_) fun hc => ?_
   ·repeat' first | refine zx ?_ | apply zn
    refine ⟨(1, p + 1), hx, ?_⟩
    refine zle
   exact absurd hc Bool.noConfusion
  | false =>
   rw [hs, if_neg Bool.noConfusion] at hx
   refine zc (fun hc => ?_) fun hc => ?_
   ·exact absurd hc Bool.noConfusion
   have hk := fun u => zCg l ho.1 p u 2 [87,82,73,84,69]
   refine zQ 900000 mk2 hk ?_
   clear hk
   cases hs : zAc l ⟨p, 0⟩ ⟨2, [87, 82, 73, 84, 69], 0, 0⟩ with
   | true =>
    rw [hs, if_pos rfl] at hx
    refine zc (fun hc => ?_) fun hc => ?_
    ·repeat' first | refine zx ?_ | apply zn
     refine ⟨(2, p + 1), hx, ?_⟩
     refine zle
    exact absurd hc Bool.noConfusion
   | false =>
    rw [hs, if_neg Bool.noConfusion] at hx
    refine zc (fun hc => ?_) fun hc => ?_
    ·exact absurd hc Bool.noConfusion
    have he : ¬ (zBQ l ⟨p, 0⟩).e = 0 := zCY
    rw [hx]
    have hp : zBQ l ⟨p, 0⟩ = ⟨(zBQ l ⟨p, 0⟩).p, (zBQ l ⟨p, 0⟩).e⟩ := rfl
    generalize hb : zBQ l ⟨p, 0⟩ = b at *
    obtain ⟨pb, eb⟩ := b
    dsimp only at he ⊢
    rw [zAX he, zPg he, <-hb]
    refine zPQ 3 900000 mk2 (fun u => (zJ8 l p u).2 id) fun _ => ?_
    rw [hb]
    exact ⟨fun hh => absurd hh he, fun _ => ⟨rfl, zAv rfl rfl rfl⟩⟩
 rintro ⟨r, p1⟩ hx
 rw [hx]
 dsimp only
 have h1 := zC5 l ho p1 zKA [79, 78] rfl zWU
 generalize (zAk l ⟨p1, 0⟩ [zKA]) = A at h1 ⊢
 obtain ⟨p2, e1⟩ := A
 dsimp only at h1 ⊢
 by_cases he : e1 = 0
 ·subst he
  refine zQ 900000 mk2 (fun u => (h1 u).1 rfl) ?_
  clear h1
  refine zAq (s' := St.of [(0, .one (.ptr 900000 0 0)), (900000, .one (.ptr 900000 0 0)) , (1000003, .one (.eptr spE)), (1000005, .one (.eptr fsE)), (1000006, .one (.eptr acE))] (msC l p2 ({ c with rt := r }))) zle ?_
  have h1 := ofU l ho p2 { c with rt := r }
  generalize (zHw l { c with rt := r } ⟨p2, 0⟩) = A at h1 ⊢
  obtain ⟨c3, p3, e1⟩ := A
  dsimp only at h1 ⊢
  by_cases he : e1 = 0
  ·subst he
   refine zH [(900000, 900000)] kr kr (h1.1 rfl) ?_
   exact ⟨fun _ => ⟨.inl rfl, _, _, _, rfl, zzp, rfl, fun X => zle⟩, fun hh => absurd rfl hh⟩
  refine zP 1 [(900000, 900000)] kr [] (h1.2 he) fun _ => ?_
  exact ⟨fun hh => absurd hh he, fun _ => ⟨rfl, zAv rfl rfl rfl⟩⟩
 rw [zPg he]
 try simp only [zAX he, zAI he zFp, zAI he zBV, zK5]
 refine zPQ 1 900000 mk2 (fun u => (h1 u).2 he) fun _ => ?_
 exact ⟨fun hh => absurd hh he, fun _ => ⟨rfl, zAv rfl rfl rfl⟩⟩
def zKC : Tok := wdT [71, 82, 65, 78, 84]
def zKz : Tok := wdT [82, 69, 86, 79, 75, 69]
def zJm : Tok := wdT [84, 79]
def zB3 : Tok := wdT [70, 82, 79, 77]
def zGw : Tok := wdT [87, 73, 84, 72]
def zMX : Tok := wdT [79, 80, 84, 73, 79, 78]
theorem zWR : Fld [84, 79] [[84, 79]] := zzF
theorem zVs : Fld [70, 82, 79, 77] [[70, 82, 79, 77]] := zzF
theorem zWT : Fld [79, 80, 84, 73, 79, 78] [[79, 80, 84, 73, 79, 78]] := zzF
def zID (l : List Tok) (c : Cmd) (s : Spot) (w : Tok) : Cmd × Spot :=
 ({ (zIl l c s).1 with to := (zBl l (zAk l (zIl l c s).2 [w]) 3).1.i }, (zBl l (zAk l (zIl l c s).2 [w]) 3).2)
def zRF (l : List Tok) (x : Cmd × Spot) : Cmd × Spot := if zAc l x.2 zGw = true then ({ x.1 with op := true }, zAk l x.2 [zGw, zMX]) else x
def zLW (l : List Tok) (c : Cmd) (s : Spot) : Cmd × Spot :=
 if zAc l s zKC = true then zRF l (zID l { c with k := 6 } ⟨s.p + 1, s.e⟩ zJm)
 else if zAc l s zKz = true then zID l { c with k := 7 } ⟨s.p + 1, s.e⟩ zB3 else (c, zBQ l s)
theorem zFv {l : List Tok} {c : Cmd} {p : Nat} {e : Int} (h : e ≠ 0) : zRF l (c, ⟨p, e⟩) = (c, ⟨p, e⟩) := by
 unfold zRF
 rw [if_neg (by rw [zAV h]; exact Bool.noConfusion)]
theorem zRy (l : List Tok) (ho : zAW l) (p : Nat) (c : Cmd) : zEU Tryz.prog [(900000, 31)] 85 gY (msC l p c) [ptS] ((zIl l c ⟨p, 0⟩).2.e = 0) (.tup []) (msC l (zIl l c ⟨p, 0⟩).2.p (zIl l c ⟨p, 0⟩).1) (chT (zIl l c ⟨p, 0⟩).2) := zTY l ho p c
theorem zSq (l : List Tok) (ho : zAW l) (p : Nat) (c : Cmd) : zEU Tryz.prog [(900000, 31)] 56 (gY) (msC l p c) [ptS] ((zLW l c ⟨p, 0⟩).2.e = 0) (.tup []) (msC l (zLW l c ⟨p, 0⟩).2.p (zLW l c ⟨p, 0⟩).1) (chT (zLW l c ⟨p, 0⟩).2) := by
 refine zFX 60 Tryz.func56 fun X hnt => ?_
 unfold zLW
 have hk := fun u => zCg l ho.1 p u 2 [71,82,65,78,84]
 refine zQ 900000 mk2 hk ?_
 clear hk
 cases hs : zAc l ⟨p, 0⟩ ⟨2, [71, 82, 65, 78, 84], 0, 0⟩ with
 | true =>
  rw [if_pos (show zAc l ⟨p, 0⟩ zKC = true from hs)]
  refine zc (fun hc => ?_) fun hc => ?_
  ·unfold zID
   repeat' first | refine zx ?_ | apply zn
   refine zAq (s' := St.of [(0, .one (.ptr 900000 0 0)), (900000, .one (.ptr 900000 0 0)) , (1000003, .one (.eptr spE)), (1000005, .one (.eptr fsE)), (1000006, .one (.eptr acE))] (msC l (p + 1) ({ c with k := 6 }))) zle ?_
   have h1 := zRy l ho (p + 1) ({ c with k := 6 })
   generalize (zIl l ({ c with k := 6 }) ⟨p + 1, 0⟩) = A at h1 ⊢
   obtain ⟨c2, p2, e1⟩ := A
   dsimp only at h1 ⊢
   by_cases he : e1 = 0
   rotate_left
   ·simp only [zAX he, zAI he zBV]
    (try rw [zFv he])
    refine zP 1 [(900000, 900000)] kr [] (h1.2 he) fun _ => ?_
    exact ⟨fun hh => absurd hh he, fun _ => ⟨rfl, zAv rfl rfl rfl⟩⟩
   subst he
   refine zH [(900000, 900000)] kr kr (h1.1 rfl) ?_
   refine zAq (s' := St.of [(0, .one (.ptr 900000 0 0)), (900000, .one (.ptr 900000 0 0)) , (1000003, .one (.eptr spE)), (1000005, .one (.eptr fsE)), (1000006, .one (.eptr acE))] (msC l p2 c2)) zle ?_
   clear h1
   have h1 := zC5 l ho p2 zJm [84,79] rfl zWR
   generalize (zAk l ⟨p2, 0⟩ [zJm]) = A at h1 ⊢
   obtain ⟨p3, e1⟩ := A
   dsimp only at h1 ⊢
   by_cases he : e1 = 0
   rotate_left
   ·simp only [zAI he zBV]
    (try rw [zFv he])
    refine zPQ 1 900000 mk2 (fun u => (h1 u).2 he) fun _ => ?_
    exact ⟨fun hh => absurd hh he, fun _ => ⟨rfl, zAv rfl rfl rfl⟩⟩
   subst he
   refine zQ 900000 mk2 (fun u => (h1 u).1 rfl) ?_
   clear h1
   refine zAq (s' := St.of [(0, .one (.ptr 900000 0 0)), (900000, .one (.ptr 900000 0 0)) , (1000003, .one (.eptr spE)), (1000005, .one (.eptr fsE)), (1000006, .one (.eptr acE))] (msC l p3 c2)) zle ?_
   have h1 := zNf l ho p3 3 (by decide)
   generalize zBl l ⟨p3, 0⟩ 3 = A at h1 ⊢
   obtain ⟨t4, p4, e1⟩ := A
   dsimp only at h1 ⊢
   by_cases he : e1 = 0
   rotate_left
   ·(try rw [zFv he])
    refine zPQ 4 900000 mk2 (fun u => (h1 u).2 he) fun _ => ?_
    exact ⟨fun hh => absurd hh he, fun _ => ⟨rfl, zAv rfl rfl rfl⟩⟩
   subst he
   refine zQ 900000 mk2 (fun u => (h1 u).1 rfl) ?_
   clear h1
   unfold zRF
   refine zAq (s' := St.of [(0, .one (.ptr 900000 0 0)), (900000, .one (.ptr 900000 0 0)) , (1000003, .one (.eptr spE)), (1000005, .one (.eptr fsE)), (1000006, .one (.eptr acE))] (msC l p4 ({ c2 with to := t4.i }))) zle ?_
   have hk := fun u => zCg l ho.1 p4 u 2 [87,73,84,72]
   refine zQ 900000 mk2 hk ?_
   clear hk
   cases hs : zAc l ⟨p4, 0⟩ ⟨2, [87, 73, 84, 72], 0, 0⟩ with
   | true =>
    rw [if_pos (show zAc l ⟨p4, 0⟩ zGw = true from hs), zAQ, if_pos (show zAc l ⟨p4, 0⟩ zGw = true from hs)]
    refine zc (fun hc => ?_) fun hc => ?_
    ·refine zAq (s' := St.of [(0, .one (.ptr 900000 0 0)), (900000, .one (.ptr 900000 0 0)) , (1000003, .one (.eptr spE)), (1000005, .one (.eptr fsE)), (1000006, .one (.eptr acE))] (msC l (p4 + 1) ({ c2 with to := t4.i }))) zle ?_
     have h1 := zC5 l ho (p4 + 1) zMX [79,80,84,73,79,78] rfl zWT
     generalize (zAk l ⟨p4 + 1, 0⟩ [zMX]) = A at h1 ⊢
     obtain ⟨p5, e1⟩ := A
     dsimp only at h1 ⊢
     by_cases he : e1 = 0
     rotate_left
     ·refine zPQ 1 900000 mk2 (fun u => (h1 u).2 he) fun _ => ?_
      exact ⟨fun hh => absurd hh he, fun _ => ⟨rfl, zAv rfl rfl rfl⟩⟩
     subst he
     refine zQ 900000 mk2 (fun u => (h1 u).1 rfl) ?_
     clear h1
     repeat' first | refine zx ?_ | apply zn
     exact ⟨fun _ => ⟨.inl rfl, _, _, _, rfl, zzp, rfl, fun X => zle⟩, fun hh => absurd rfl hh⟩
    exact absurd hc Bool.noConfusion
   | false =>
    rw [if_neg (show ¬ zAc l ⟨p4, 0⟩ zGw = true by rw [show zAc l ⟨p4, 0⟩ zGw = false from hs]; exact Bool.noConfusion)]
    refine zc (fun hc => ?_) fun hc => ?_
    ·exact absurd hc Bool.noConfusion
    repeat' apply zn
    exact ⟨fun _ => ⟨.inl rfl, _, _, _, rfl, zzp, rfl, fun X => zle⟩, fun hh => absurd rfl hh⟩
  exact absurd hc Bool.noConfusion
 | false =>
  rw [if_neg (show ¬ zAc l ⟨p, 0⟩ zKC = true by rw [show zAc l ⟨p, 0⟩ zKC = false from hs]; exact Bool.noConfusion)]
  refine zc (fun hc => ?_) fun hc => ?_
  ·exact absurd hc Bool.noConfusion
  have hk := fun u => zCg l ho.1 p u 2 [82,69,86,79,75,69]
  refine zQ 900000 mk2 hk ?_
  clear hk
  cases hs : zAc l ⟨p, 0⟩ ⟨2, [82, 69, 86, 79, 75, 69], 0, 0⟩ with
  | true =>
   rw [if_pos (show zAc l ⟨p, 0⟩ zKz = true from hs)]
   refine zc (fun hc => ?_) fun hc => ?_
   ·unfold zID
    repeat' first | refine zx ?_ | apply zn
    refine zAq (s' := St.of [(0, .one (.ptr 900000 0 0)), (900000, .one (.ptr 900000 0 0)) , (1000003, .one (.eptr spE)), (1000005, .one (.eptr fsE)), (1000006, .one (.eptr acE))] (msC l (p + 1) ({ c with k := 7 }))) zle ?_
    have h1 := zRy l ho (p + 1) ({ c with k := 7 })
    generalize (zIl l ({ c with k := 7 }) ⟨p + 1, 0⟩) = A at h1 ⊢
    obtain ⟨c2, p2, e1⟩ := A
    dsimp only at h1 ⊢
    by_cases he : e1 = 0
    rotate_left
    ·simp only [zAX he, zAI he zBV]
     (try rw [zFv he])
     refine zP 1 [(900000, 900000)] kr [] (h1.2 he) fun _ => ?_
     exact ⟨fun hh => absurd hh he, fun _ => ⟨rfl, zAv rfl rfl rfl⟩⟩
    subst he
    refine zH [(900000, 900000)] kr kr (h1.1 rfl) ?_
    refine zAq (s' := St.of [(0, .one (.ptr 900000 0 0)), (900000, .one (.ptr 900000 0 0)) , (1000003, .one (.eptr spE)), (1000005, .one (.eptr fsE)), (1000006, .one (.eptr acE))] (msC l p2 c2)) zle ?_
    clear h1
    have h1 := zC5 l ho p2 zB3 [70,82,79,77] rfl zVs
    generalize (zAk l ⟨p2, 0⟩ [zB3]) = A at h1 ⊢
    obtain ⟨p3, e1⟩ := A
    dsimp only at h1 ⊢
    by_cases he : e1 = 0
    rotate_left
    ·simp only [zAI he zBV]
     (try rw [zFv he])
     refine zPQ 1 900000 mk2 (fun u => (h1 u).2 he) fun _ => ?_
     exact ⟨fun hh => absurd hh he, fun _ => ⟨rfl, zAv rfl rfl rfl⟩⟩
    subst he
    refine zQ 900000 mk2 (fun u => (h1 u).1 rfl) ?_
    clear h1
    refine zAq (s' := St.of [(0, .one (.ptr 900000 0 0)), (900000, .one (.ptr 900000 0 0)) , (1000003, .one (.eptr spE)), (1000005, .one (.eptr fsE)), (1000006, .one (.eptr acE))] (msC l p3 c2)) zle ?_
    have h1 := zNf l ho p3 3 (by decide)
    generalize zBl l ⟨p3, 0⟩ 3 = A at h1 ⊢
    obtain ⟨t4, p4, e1⟩ := A
    dsimp only at h1 ⊢
    by_cases he : e1 = 0
    rotate_left
    ·(try rw [zFv he])
     refine zPQ 4 900000 mk2 (fun u => (h1 u).2 he) fun _ => ?_
     exact ⟨fun hh => absurd hh he, fun _ => ⟨rfl, zAv rfl rfl rfl⟩⟩
    subst he
    refine zQ 900000 mk2 (fun u => (h1 u).1 rfl) ?_
    clear h1
    exact ⟨fun _ => ⟨.inl rfl, _, _, _, rfl, zzp, rfl, fun X => zle⟩, fun hh => absurd rfl hh⟩
   exact absurd hc Bool.noConfusion
  | false =>
   rw [if_neg (show ¬ zAc l ⟨p, 0⟩ zKz = true by rw [show zAc l ⟨p, 0⟩ zKz = false from hs]; exact Bool.noConfusion)]
   refine zc (fun hc => ?_) fun hc => ?_
   ·exact absurd hc Bool.noConfusion
   have he : ¬ (zBQ l ⟨p, 0⟩).e = 0 := zCY
   refine zPQ 3 900000 mk2 (fun u => (zJ8 l p u).2 id) fun _ => ?_
   exact ⟨fun hh => absurd hh he, fun _ => ⟨rfl, zAv rfl rfl rfl⟩⟩
abbrev Stp := Cmd -> Spot -> Cmd × Spot
def zBk (l : List Tok) (g : Stp) : Nat -> Stp
 | 0, c, s => (c, s)
 | n + 1, c, s => if zAc l (g c s).2 zFo = true then zBk l g n (g c s).1 ⟨(g c s).2.p + 1, (g c s).2.e⟩ else g c s
def zBq (l : List Tok) (g : Stp) (n : Nat) (c : Cmd) (s : Spot) : Cmd × Spot := if zAc l s zFo = true then zBk l g n c ⟨s.p + 1, s.e⟩ else (c, s)
theorem zBg (l : List Tok) (g : Stp) (n : Nat) (c : Cmd) (s : Spot) : zBk l g (n + 1) c s = zBq l g n (g c s).1 (g c s).2 := by rw [zBk]; rfl
def Fw (l : List Tok) (g : Stp) : Prop := ∀ c s, s.p <= (g c s).2.p /\ (s.p <= l.length -> (g c s).2.p <= l.length)
def Bd (g : Stp) : Prop := ∀ c s, s.e ≠ 0 -> (g c s).2 = s
theorem zCD {l : List Tok} {g : Stp} (h : Fw l g) : ∀ n, Fw l (zBk l g n)
 | 0, c, s => ⟨Nat.le_refl _, fun h => h⟩
 | n + 1, c, s => by
  rw [zBg]
  unfold zBq
  have h1 := h c s
  cases hs : zAc l (g c s).2 zFo with
  | true =>
   rw [if_pos rfl]
   have h2 := zCD h n (g c s).1 ⟨(g c s).2.p + 1, (g c s).2.e⟩
   have h3 := (zAw.1 hs).2.1
   dsimp only at h2
   omega
  | false =>
   rw [if_neg Bool.noConfusion]
   exact h1
theorem zOP {l : List Tok} {g : Stp} (h : Bd g) {n : Nat} : Bd (zBk l g (n + 1)) := fun c s he => by
 rw [zBg]
 unfold zBq
 rw [h c s he, if_neg (by rw [zAV he]; exact Bool.noConfusion)]
structure Szs (c : Cmd) (n : Nat) : Prop where
 cs : c.cs.length <= n
 ro : c.ro.length <= n
 ss : c.ss.length <= n
 is : c.q.is.length <= n
 so : c.q.ss.length <= n
theorem Szs.mono {c : Cmd} {n m : Nat} (h : Szs c n) (k : n <= m) : Szs c m := ⟨Nat.le_trans h.cs k, Nat.le_trans h.ro k, Nat.le_trans h.ss k, Nat.le_trans h.is k, Nat.le_trans h.so k⟩
def SzD (g : Stp) : Prop := ∀ c s n, Szs c n -> Szs (g c s).1 (n + 1)
def Clo (l : List Tok) (f : Nat) (g : Stp) : Prop := ∀ p c, p <= l.length -> Szs c p -> zEU Tryz.prog [(900000, 31)] f gY (msC l p c) [ptS] ((g c ⟨p, 0⟩).2.e = 0) (.tup []) (msC l (g c ⟨p, 0⟩).2.p (g c ⟨p, 0⟩).1) (chT (g c ⟨p, 0⟩).2)
theorem zSG (l : List Tok) (ho : zAW l) (p0 : Nat) (c0 : Cmd) (f : Nat) (g : Stp) (hf : Clo l f g) (hw : Fw l g) (hz : SzD g) (hp0 : p0 <= l.length) (hz0 : Szs c0 p0) : zEU Tryz.prog [(900000, 31)] 48 (gY) (msC l p0 c0) [ptS, .one (.clo (1048576 + f) [(900000, 0, 0)])] ((zBk l g (l.length + 1) c0 ⟨p0, 0⟩).2.e = 0) (.tup []) (msC l (zBk l g (l.length + 1) c0 ⟨p0, 0⟩).2.p (zBk l g (l.length + 1) c0 ⟨p0, 0⟩).1) (chT (zBk l g (l.length + 1) c0 ⟨p0, 0⟩).2) := by
 refine zFX 12 Tryz.func48 fun X hnt => ?_
 have hm' : l.length <= 9223372036854775807 := Nat.le_trans ho.1 (by decide)
 have h1 := hf p0 c0 hp0 hz0
 have hz1 := hz c0 ⟨p0, 0⟩ p0 hz0
 have hfw := hw c0 ⟨p0, 0⟩
 rw [zBg]
 generalize g c0 ⟨p0, 0⟩ = A at h1 hz1 hfw ⊢
 obtain ⟨c1, p1, e1⟩ := A
 dsimp only at h1 hz1 hfw ⊢
 by_cases he : e1 = 0
 rotate_left
 ·unfold zBq
  rw [zAV he, if_neg Bool.noConfusion]
  repeat' apply zn
  refine zAE 1 (zzx hnt rfl ?_ (Lex.nil _)) (zME (us := []) [(900000, 900000)] kr [] rfl rfl rfl rfl (h1.2 he) zg (fun _ => rfl) rfl rfl (fun _ => rfl) (fun _ _ => undef) zzi (fun _ => zzi)) (fun _ => ?_)
  ·exact zzt
  exact ⟨fun hh => absurd hh he, fun _ => ⟨rfl, zAv rfl rfl rfl⟩⟩
 subst he
 repeat' apply zn
 refine zAa (zzx hnt rfl ?_ (zS5 (us := []) [(900000, 900000)] kr kr rfl rfl rfl rfl (h1.1 rfl) zg (fun _ => rfl) rfl rfl hnt rfl rfl zzi zzi (zzx hnt rfl ?_ (Lex.nil _)))) ?_
 ·exact zzt
 ·exact zzt
 repeat' apply zn
 refine zAx (σ := Nat × Cmd × Nat) (fun x => St.of [(0, .one (.ptr 900000 0 0)), (1, .one (.clo (1048576 + f) [(900000, 0, 0)])), (900000, .one (.ptr 900000 0 0)) , (1000003, .one (.eptr spE)), (1000005, .one (.eptr fsE)), (1000006, .one (.eptr acE))] (msC l x.2.2 x.2.1)) (fun x => zBq l g x.1 x.2.1 ⟨x.2.2, 0⟩ = zBq l g l.length c1 ⟨p1, 0⟩ /\ x.2.2 <= l.length /\ l.length - x.2.2 <= x.1 /\ Szs x.2.1 (x.2.2 + 1)) (fun x => x.1) (l.length, c1, p1) zle ⟨rfl, hfw.2 hp0, Nat.sub_le _ _, hz1.mono (Nat.succ_le_succ hfw.1)⟩ ?_
 rintro ⟨n, c, p⟩ ⟨hJ, hp, hn, hsz⟩
 dsimp only at hJ hp hn hsz ⊢
 clear h1 hfw hz1
 have hk := fun u => zCg l ho.1 p u 6 [44]
 refine zQ 900000 mk2 hk ?_
 clear hk
 cases hs : zAc l ⟨p, 0⟩ ⟨6, [44], 0, 0⟩ with
 | true =>
  have hlt := (zAw.1 hs).2.1
  dsimp only at hlt
  refine zc (fun hc => ?_) fun hc => ?_
  ·obtain ⟨m, rfl⟩ : ∃ m, n = m + 1 := ⟨n - 1, by omega⟩
   have hJ2 : zBq l g (m + 1) c ⟨p, 0⟩ = zBq l g m (g c ⟨p + 1, 0⟩).1 (g c ⟨p + 1, 0⟩).2 := by
    rw [zBq, if_pos (show zAc l ⟨p, 0⟩ zFo = true from hs), zBg]
   rw [hJ2] at hJ
   refine zAq (s' := St.of [(0, .one (.ptr 900000 0 0)), (1, .one (.clo (1048576 + f) [(900000, 0, 0)])), (900000, .one (.ptr 900000 0 0)) , (1000003, .one (.eptr spE)), (1000005, .one (.eptr fsE)), (1000006, .one (.eptr acE))] (msC l (p + 1) c)) zle ?_
   have h1 := hf (p + 1) c hlt hsz
   have hz1 := hz c ⟨p + 1, 0⟩ (p + 1) hsz
   have hfw := hw c ⟨p + 1, 0⟩
   generalize g c ⟨p + 1, 0⟩ = A at h1 hz1 hfw hJ ⊢
   obtain ⟨c2, p2, e1⟩ := A
   dsimp only at h1 hz1 hfw hJ ⊢
   by_cases he : e1 = 0
   rotate_left
   ·rw [<-hJ]
    unfold zBq
    rw [zAV he, if_neg Bool.noConfusion]
    repeat' apply zn
    refine zAE 1 (zzx hnt rfl ?_ (Lex.nil _)) (zME (us := []) [(900000, 900000)] kr [] rfl rfl rfl rfl (h1.2 he) zg (fun _ => rfl) rfl rfl (fun _ => rfl) (fun _ _ => undef) zzi (fun _ => zzi)) (fun _ => ?_)
    ·exact zzt
    exact ⟨fun hh => absurd hh he, fun _ => ⟨rfl, zAv rfl rfl rfl⟩⟩
   subst he
   repeat' apply zn
   refine zAa (zzx hnt rfl ?_ (zS5 (us := []) [(900000, 900000)] kr kr rfl rfl rfl rfl (h1.1 rfl) zg (fun _ => rfl) rfl rfl hnt rfl rfl zzi zzi (zzx hnt rfl ?_ (Lex.nil _)))) ?_
   ·exact zzt
   ·exact zzt
   exact ⟨(m, c2, p2), ⟨hJ, hfw.2 hlt, (by have h3 := hfw.1; show l.length - p2 <= m; omega), hz1.mono (Nat.succ_le_succ hfw.1)⟩, Nat.lt_succ_self m, zle⟩
  exact absurd hc Bool.noConfusion
 | false =>
  refine zc (fun hc => ?_) fun hc => ?_
  ·exact absurd hc Bool.noConfusion
  refine zAt ?_
  rw [<-hJ]
  unfold zBq
  rw [if_neg (show ¬ zAc l ⟨p, 0⟩ zFo = true by rw [show zAc l ⟨p, 0⟩ zFo = false from hs]; exact Bool.noConfusion)]
  repeat' apply zn
  exact ⟨fun _ => ⟨.inl rfl, _, _, _, rfl, zzp, rfl, fun X => zle⟩, fun hh => absurd rfl hh⟩
def kwT (k : Int) : Byt := if k = 1 then [66, 79, 79, 76] else if k = 2 then [73, 78, 84] else if k = 3 then [82, 69, 65, 76] else [84, 69, 88, 84]
theorem zQI (k : Int) : FnD Tryz.prog 81 [.one (.e (eI k))] (.one (.e (eT (kwT k)))) := by
 refine zD 10 Tryz.func81 fun X hnt => ?_
 unfold kwT
 repeat' first | refine zx ?_ | fail
 refine zc (fun hc => ?_) fun hc => ?_
 ·simp only [zz] at hc
  rw [if_pos hc]
  repeat' first | refine zx ?_ | apply zn
  exact zAb ⟨.inr rfl, _, _, rfl, zzp, rfl⟩
 simp only [zz] at hc
 rw [if_neg hc]
 repeat' first | refine zx ?_ | fail
 refine zc (fun hc => ?_) fun hc => ?_
 ·simp only [zz] at hc
  rw [if_pos hc]
  repeat' first | refine zx ?_ | apply zn
  exact zAb ⟨.inr rfl, _, _, rfl, zzp, rfl⟩
 simp only [zz] at hc
 rw [if_neg hc]
 repeat' first | refine zx ?_ | fail
 refine zc (fun hc => ?_) fun hc => ?_
 ·simp only [zz] at hc
  rw [if_pos hc]
  repeat' first | refine zx ?_ | apply zn
  exact zAb ⟨.inr rfl, _, _, rfl, zzp, rfl⟩
 simp only [zz] at hc
 rw [if_neg hc]
 repeat' first | refine zx ?_ | apply zn
 exact zAb ⟨.inr rfl, _, _, rfl, zzp, rfl⟩
def awT (k : Int) : Byt := if k = 1 then [67, 79, 85, 78, 84] else if k = 2 then [83, 85, 77] else if k = 3 then [77, 73, 78] else [77, 65, 88]
theorem zTd (k : Int) : FnD Tryz.prog 105 [.one (.e (eI k))] (.one (.e (eT (awT k)))) := by
 refine zD 10 Tryz.func105 fun X hnt => ?_
 unfold awT
 repeat' first | refine zx ?_ | fail
 refine zc (fun hc => ?_) fun hc => ?_
 ·simp only [zz] at hc
  rw [if_pos hc]
  repeat' first | refine zx ?_ | apply zn
  exact zAb ⟨.inr rfl, _, _, rfl, zzp, rfl⟩
 simp only [zz] at hc
 rw [if_neg hc]
 repeat' first | refine zx ?_ | fail
 refine zc (fun hc => ?_) fun hc => ?_
 ·simp only [zz] at hc
  rw [if_pos hc]
  repeat' first | refine zx ?_ | apply zn
  exact zAb ⟨.inr rfl, _, _, rfl, zzp, rfl⟩
 simp only [zz] at hc
 rw [if_neg hc]
 repeat' first | refine zx ?_ | fail
 refine zc (fun hc => ?_) fun hc => ?_
 ·simp only [zz] at hc
  rw [if_pos hc]
  repeat' first | refine zx ?_ | apply zn
  exact zAb ⟨.inr rfl, _, _, rfl, zzp, rfl⟩
 simp only [zz] at hc
 rw [if_neg hc]
 repeat' first | refine zx ?_ | apply zn
 exact zAb ⟨.inr rfl, _, _, rfl, zzp, rfl⟩
def kdW : List Byt := [[], [66, 79, 79, 76], [73, 78, 84], [82, 69, 65, 76], [84, 69, 88, 84]]
theorem zSI {l : List Tok} {s : Spot} {i : Nat} (h1 : 1 <= i) (h2 : i <= 4) : ooF l s (i : Int) (kdW.drop i) = if zAc l s ⟨2, kwT (i : Int), 0, 0⟩ = true then ((i : Int), ⟨s.p + 1, s.e⟩) else ooF l s ((i + 1 : Nat) : Int) (kdW.drop (i + 1)) := by
 have h : i = 1 \/ i = 2 \/ i = 3 \/ i = 4 := by omega
 rcases h with rfl | rfl | rfl | rfl <;> simp [ooF, kdW, kwT, wdT]
def zG8 (l : List Tok) : Stp := fun c s =>
 ({ c with cs := c.cs ++ [⟨(zBl l s 1).1.t, (ooF l (zBl l s 1).2 0 kdW).1, !zAc l (ooF l (zBl l s 1).2 0 kdW).2 zIe⟩] },
  if zAc l (ooF l (zBl l s 1).2 0 kdW).2 zIe = true then zAk l (ooF l (zBl l s 1).2 0 kdW).2 [zIe, zB8] else (ooF l (zBl l s 1).2 0 kdW).2)
theorem zOC {l : List Tok} {p : Nat} {e : Int} (h : e ≠ 0) : ∀ (ws : List Byt) (i : Int), ooF l ⟨p, e⟩ i ws = (0, ⟨p, e⟩)
 | [], i => by
  rw [ooF]
  unfold zBQ
  rw [if_neg h]
 | w :: r, i => by
  rw [ooF, if_neg (by rw [zAV h]; exact fun q => Bool.noConfusion q.2)]
  exact zOC h r _
theorem zDU {l : List Tok} {p : Nat} {e : Int} {t : Tok} (h : e ≠ 0) : zAc l ⟨p, e⟩ t = false := zAV h
theorem ifB {α : Type} {a b : α} : (if false = true then a else b) = b := if_neg Bool.noConfusion
theorem zXx : Fld [78, 85, 76, 76] [[78, 85, 76, 76]] := zGl
theorem zFO {α : Type} (f : α -> List E) (xs : List α) (x : α) : xs.map f ++ [f x] = (xs ++ [x]).map f := by rw [List.map_append]; rfl
def msK (l : List Tok) (p : Nat) (c : Cmd) (t : Byt) (k : Int) (b : Bool) : List (Nat × Blk) := [(900000, ⟨0, .box (.ds (bxC l p c)), 0⟩), (900001, ⟨0, .row 3 (c.cs.map zCm), 0⟩), (900002, ⟨0, .row 4 (c.ro.map zBw), 0⟩), (900003, ⟨0, .row 8 (c.ss.map zCe), 0⟩), (900004, ⟨0, .row 8 (c.q.is.map zBP), 0⟩), (900005, ⟨0, .row 2 (c.q.ss.map zC3), 0⟩), (2, ⟨0, .box (.es (zCm ⟨t, k, b⟩)), 0⟩)]
theorem zS1 (l : List Tok) (ho : zAW l) (hL : l.length <= 100) (p : Nat) (c : Cmd) (hp : p <= l.length) (hz : Szs c p) : zEU Tryz.prog [(900000, 31)] 49 (gY) (msC l p c) [ptS] ((zG8 l c ⟨p, 0⟩).2.e = 0) (.tup []) (msC l (zG8 l c ⟨p, 0⟩).2.p (zG8 l c ⟨p, 0⟩).1) (chT (zG8 l c ⟨p, 0⟩).2) := by
 refine zFX 48 Tryz.func49 fun X hnt => ?_
 unfold zG8
 have h1 := zNf l ho p 1 (by decide)
 generalize zBl l ⟨p, 0⟩ 1 = A at h1 ⊢
 obtain ⟨t1, p1, e1⟩ := A
 dsimp only at h1 ⊢
 by_cases he : e1 = 0
 rotate_left
 ·simp only [zOC he, zDU he, ifB]
  refine zPQ 3 900000 mk2 (fun u => (h1 u).2 he) fun _ => ?_
  exact ⟨fun hh => absurd hh he, fun _ => ⟨rfl, zAv rfl rfl rfl⟩⟩
 subst he
 refine zQ 900000 mk2 (fun u => (h1 u).1 rfl) ?_
 clear h1
 refine zx ?_
 refine zBy (σ := Int × Nat) (fun x => St.of [(0, .one (.ptr 900000 0 0)), (2, .one (.ptr 2 0 0)), (900000, .one (.ptr 900000 0 0)) , (1000003, .one (.eptr spE)), (1000005, .one (.eptr fsE)), (1000006, .one (.eptr acE))] (msK l x.2 c t1.t x.1 true)) (fun x => (x.1 ≠ 0 /\ ooF l ⟨p1, 0⟩ 0 kdW = (x.1, ⟨x.2, 0⟩)) \/ (x.1 = 0 /\ x.2 = p1 /\ ooF l ⟨p1, 0⟩ 0 kdW = (0, zBQ l ⟨p1, 0⟩))) ?_ ?_
 ·repeat' apply zn
  refine zAx (σ := Nat) (fun i => St.of [(0, .one (.ptr 900000 0 0)), (2, .one (.ptr 2 0 0)), (3, .one (.e (eI (i : Int)))), (900000, .one (.ptr 900000 0 0)) , (1000003, .one (.eptr spE)), (1000005, .one (.eptr fsE)), (1000006, .one (.eptr acE))] (msK l p1 c t1.t 0 true)) (fun i => 1 <= i /\ i <= 5 /\ ooF l ⟨p1, 0⟩ 0 kdW = ooF l ⟨p1, 0⟩ (i : Int) (kdW.drop i)) (fun i => 5 - i) 1 zle ⟨Nat.le_refl _, by decide, by simp [ooF, kdW]⟩ ?_
  rintro i ⟨i1, i5, hJ⟩
  repeat' first | refine zx ?_ | fail
  refine zc (fun hc => ?_) fun hc => ?_
  ·simp only [zz] at hc
   have i4 : i <= 4 := by omega
   rw [zSI i1 i4] at hJ
   have hw := zQI (i : Int)
   have hk := fun u => zCg l ho.1 p1 u 2 (kwT (i : Int))
   repeat' apply zn
   refine zAK (T := tab) tOk hnt zAO (zA2 (T := tab) rfl ?_ (zNH rfl rfl rfl rfl rfl rfl rfl rfl (hw) (zA2 (T := tab) rfl ?_ (zDM 900000 mk2 rfl rfl rfl (hk) rfl rfl (fun _ => rfl) (fun _ => rfl) rfl (fun _ _ _ => zg) rfl rfl rfl rfl (fun _ => rfl) (zA2 (T := tab) rfl ?_ (.nil _)))))) (by first | decide +kernel | kernel_rfl) ?_
   ·exact zzt
   ·exact zzt
   ·exact zzt
   clear hk
   cases hs : zAc l ⟨p1, 0⟩ ⟨2, kwT (i : Int), 0, 0⟩ with
   | true =>
    rw [hs, if_pos rfl] at hJ
    refine zc (fun hc => ?_) fun hc => ?_
    ·repeat' first | refine zx ?_ | apply zn
     refine zAt ?_
     exact ⟨((i : Int), p1 + 1), .inl ⟨by show (i : Int) ≠ 0; omega, hJ⟩, zle⟩
    exact absurd hc Bool.noConfusion
   | false =>
    rw [hs, if_neg Bool.noConfusion] at hJ
    refine zc (fun hc => ?_) fun hc => ?_
    ·exact absurd hc Bool.noConfusion
    repeat' first | refine zx ?_ | apply zn
    exact ⟨i + 1, ⟨Nat.le_succ_of_le i1, Nat.succ_le_succ i4, hJ⟩, by omega, zAh (ad := []) ⟨⟨rfl, rfl, rfl, rfl, rfl⟩, ⟨rfl, rfl, rfl, rfl, rfl⟩, congrArg (fun z : Int => E.v (.int .i64 z)) (zAf (by omega) (by omega)), ⟨rfl, rfl, rfl, rfl, rfl⟩, rfl, rfl, rfl, trivial⟩ zm⟩
  simp only [zz] at hc
  have i5 : i = 5 := by omega
  subst i5
  refine zAt ?_
  exact ⟨(0, p1), .inr ⟨rfl, rfl, by rw [hJ]; rfl⟩, zle⟩
 rintro ⟨k, p2⟩ hJ
 dsimp only at hJ ⊢
 repeat' first | refine zx ?_ | fail
 refine zc (fun hc => ?_) fun hc => ?_
 ·simp only [zz] at hc
  rcases hJ with ⟨h, _⟩ | ⟨_, hp2, hJ⟩
  ·exact absurd hc h
  subst hp2
  rw [hJ]
  have he : ¬ (zBQ l ⟨p2, 0⟩).e = 0 := zCY
  generalize hb : zBQ l ⟨p2, 0⟩ = b at *
  obtain ⟨pb, eb⟩ := b
  dsimp only at he ⊢
  simp only [zDU he, ifB]
  rw [<-hb]
  refine zPQ 3 900000 mk2 (fun u => (zJ8 l p2 u).2 id) fun _ => ?_
  rw [hb]
  exact ⟨fun hh => absurd hh he, fun _ => ⟨rfl, zAv rfl rfl rfl⟩⟩
 simp only [zz] at hc
 rcases hJ with ⟨_, hJ⟩ | ⟨h, _⟩
 rotate_left
 ·exact absurd h hc
 rw [hJ]
 dsimp only
 have hk := fun u => zCg l ho.1 p2 u 2 [78, 79, 84]
 refine zQ 900000 mk2 hk ?_
 clear hk
 have hz2 : (c.cs.map zCm).length <= 100 := Nat.le_trans (Nat.le_of_eq (List.length_map ..)) <| Nat.le_trans hz.cs (Nat.le_trans hp hL)
 cases hs : zAc l ⟨p2, 0⟩ ⟨2, [78, 79, 84], 0, 0⟩ with
 | true =>
  rw [show zAc l ⟨p2, 0⟩ zIe = true from hs, if_pos rfl, zAQ, if_pos (show zAc l ⟨p2, 0⟩ zIe = true from hs)]
  refine zc (fun hc => ?_) fun hc => ?_
  ·refine zAq (s' := St.of [(0, .one (.ptr 900000 0 0)), (2, .one (.ptr 2 0 0)), (900000, .one (.ptr 900000 0 0)) , (1000003, .one (.eptr spE)), (1000005, .one (.eptr fsE)), (1000006, .one (.eptr acE))] (msK l (p2 + 1) c t1.t k true)) zle ?_
   have h1 := zC5 l ho (p2 + 1) zB8 [78, 85, 76, 76] rfl zXx
   generalize (zAk l ⟨p2 + 1, 0⟩ [zB8]) = A at h1 ⊢
   obtain ⟨p3, e1⟩ := A
   dsimp only at h1 ⊢
   by_cases he : e1 = 0
   rotate_left
   ·refine zPQ 1 900000 mk2 (fun u => (h1 u).2 he) fun _ => ?_
    exact ⟨fun hh => absurd hh he, fun _ => ⟨rfl, zAv rfl rfl rfl⟩⟩
   subst he
   refine zQ 900000 mk2 (fun u => (h1 u).1 rfl) ?_
   clear h1
   refine zx ?_
   refine zy ?_ ?_
   ·exact zzh
   exact ⟨fun _ => ⟨.inl rfl, _, _, _, rfl, zzp, rfl, fun X => zAh (ad := []) zzi (zAg rfl rfl zzi (zAe rfl rfl (zFO zCm c.cs ⟨t1.t, k, (!true)⟩) zm))⟩, fun hh => absurd rfl hh⟩
  exact absurd hc Bool.noConfusion
 | false =>
  rw [show zAc l ⟨p2, 0⟩ zIe = false from hs, ifB]
  refine zc (fun hc => ?_) fun hc => ?_
  ·exact absurd hc Bool.noConfusion
  refine zy ?_ ?_
  ·exact zzh
  exact ⟨fun _ => ⟨.inl rfl, _, _, _, rfl, zzp, rfl, fun X => zAh (ad := []) zzi (zAg rfl rfl zzi (zAe rfl rfl (zFO zCm c.cs ⟨t1.t, k, (!false)⟩) zm))⟩, fun hh => absurd rfl hh⟩
theorem zBS (l : List Tok) (s : Spot) {k : Int} (hk : k ≠ 0) : s.p <= (zBl l s k).2.p /\ (s.p <= l.length -> (zBl l s k).2.p <= l.length) := by
 unfold zBl
 by_cases h : zAU l s = k
 ·rw [if_pos h]
  have := zCj (l := l) (s := s) (by rw [h]; exact hk)
  exact ⟨Nat.le_succ _, fun _ => this.2.1⟩
 ·rw [if_neg h]
  show s.p <= (zBQ l s).p /\ _
  rw [zKp]
  exact ⟨Nat.le_refl _, fun h => h⟩
def spC : List (Nat × Nat) := [(900000, 31), (900006, 1)]
theorem zKa {s : St} {c c' : Cs} (h1 : s.tm 900000 = .one (.ptr 900000 0 0)) (h2 : s.mem 900000 = some ⟨0, .box c, 0⟩) (h3 : c.d0.length = 31) (h4 : s.tm 900006 = .one (.ptr 900006 0 0)) (h5 : s.mem 900006 = some ⟨0, .box c', 0⟩) (h6 : c'.d0.length = 1) : ∀ y ∈ spC, s.tm y.1 = .one (.ptr y.1 0 0) /\ ∃ c, s.mem y.1 = some ⟨0, .box c, 0⟩ /\ c.d0.length = y.2 := fun y hy => by
 rcases List.mem_cons.1 hy with rfl | hy
 ·exact ⟨h1, c, h2, h3⟩
 ·rw [List.mem_singleton.1 hy]
  exact ⟨h4, c', h5, h6⟩
def mcC (l : List Tok) (p : Nat) (c : Cmd) : List (Nat × Blk) := [(900000, ⟨0, .box (.ds (bxC l p c)), 0⟩), (900001, ⟨0, .row 3 (c.cs.map zCm), 0⟩), (900002, ⟨0, .row 4 (c.ro.map zBw), 0⟩), (900003, ⟨0, .row 8 (c.ss.map zCe), 0⟩), (900004, ⟨0, .row 8 (c.q.is.map zBP), 0⟩), (900005, ⟨0, .row 2 (c.q.ss.map zC3), 0⟩), (900006, ⟨0, .box (.ds [.ptr 900000 0 0]), 0⟩)]
def mcS (l : List Tok) (p : Nat) (c : Cmd) (s : CSet) : List (Nat × Blk) := [(900000, ⟨0, .box (.ds (bxC l p c)), 0⟩), (900001, ⟨0, .row 3 (c.cs.map zCm), 0⟩), (900002, ⟨0, .row 4 (c.ro.map zBw), 0⟩), (900003, ⟨0, .row 8 (c.ss.map zCe), 0⟩), (900004, ⟨0, .row 8 (c.q.is.map zBP), 0⟩), (900005, ⟨0, .row 2 (c.q.ss.map zC3), 0⟩), (900006, ⟨0, .box (.ds [.ptr 900000 0 0]), 0⟩), (1, ⟨0, .box (.es (zCe s)), 0⟩)]
def zP5 : Tok := sgT [61]
def zHG (l : List Tok) : Stp := fun c s =>
 ({ c with ss := c.ss ++ [⟨(zBl l s 1).1.t, (xpF l (zAk l (zBl l s 1).2 [zP5])).1⟩] }, (xpF l (zAk l (zBl l s 1).2 [zP5])).2)
theorem zH6 {l : List Tok} {p : Nat} {e : Int} (h : e ≠ 0) : xpF l ⟨p, e⟩ = (ex0, ⟨p, e⟩) := zTy h
theorem zST (l : List Tok) (ho : zAW l) (p : Nat) (hp : p <= l.length) (u : Nat -> Value) : zEU Tryz.prog [(900000, 31)] 53 gK (bQ l p u) [ptS] ((xpF l ⟨p, 0⟩).2.e = 0) (.agg (.es (eEx (xpF l ⟨p, 0⟩).1))) (bQ l (xpF l ⟨p, 0⟩).2.p u) (chT (xpF l ⟨p, 0⟩).2) := zUV l ho p u hp
theorem zXb (l : List Tok) (ho : zAW l) (hL : l.length <= 100) (p : Nat) (c : Cmd) (hp : p <= l.length) (hz : Szs c p) : zEU Tryz.prog spC 52 (gY) (mcC l p c) [.one (.ptr 900006 0 0)] ((zHG l c ⟨p, 0⟩).2.e = 0) (.tup []) (mcC l (zHG l c ⟨p, 0⟩).2.p (zHG l c ⟨p, 0⟩).1) (chT (zHG l c ⟨p, 0⟩).2) := by
 refine zFX 25 Tryz.func52 fun X hnt => ?_
 unfold zHG
 have hz2 : (c.ss.map zCe).length <= 100 := Nat.le_trans (Nat.le_of_eq (List.length_map ..)) <| Nat.le_trans hz.ss (Nat.le_trans hp hL)
 have h1 := zNf l ho p 1 (by decide)
 have hf1 := (zBS l ⟨p, 0⟩ zFp).2 hp
 generalize (zBl l ⟨p, 0⟩ 1) = A at h1 hf1 ⊢
 obtain ⟨t1, p1, e1⟩ := A
 dsimp only at h1 hf1 ⊢
 by_cases he : e1 = 0
 rotate_left
 ·simp only [zAX he, zH6 he]
  refine zPQ 3 900000 mk2 (fun u => (h1 u).2 he) fun _ => ?_
  exact ⟨fun hh => absurd hh he, fun _ => ⟨rfl, zKa rfl rfl rfl rfl rfl rfl⟩⟩
 subst he
 refine zQ 900000 mk2 (fun u => (h1 u).1 rfl) ?_
 clear h1
 refine zAq (s' := St.of [(0, .one (.ptr 900006 0 0)), (1, .one (.ptr 1 0 0)), (900000, .one (.ptr 900000 0 0)), (900006, .one (.ptr 900006 0 0)) , (1000003, .one (.eptr spE)), (1000005, .one (.eptr fsE)), (1000006, .one (.eptr acE))] (mcS l p1 c (⟨t1.t, ex0⟩))) zle ?_
 have h1 := zHr l ho p1 zP5 [61] rfl
 have hf2 := (zAo l [zP5] ⟨p1, 0⟩).2 hf1
 generalize zAk l ⟨p1, 0⟩ [zP5] = A at h1 hf2 ⊢
 obtain ⟨p2, e1⟩ := A
 dsimp only at h1 hf2 ⊢
 by_cases he : e1 = 0
 rotate_left
 ·simp only [zH6 he]
  refine zPQ 1 900000 mk2 (fun u => (h1 u).2 he) fun _ => ?_
  exact ⟨fun hh => absurd hh he, fun _ => ⟨rfl, zKa rfl rfl rfl rfl rfl rfl⟩⟩
 subst he
 refine zQ 900000 mk2 (fun u => (h1 u).1 rfl) ?_
 clear h1
 refine zAq (s' := St.of [(0, .one (.ptr 900006 0 0)), (1, .one (.ptr 1 0 0)), (900000, .one (.ptr 900000 0 0)), (900006, .one (.ptr 900006 0 0)) , (1000003, .one (.eptr spE)), (1000005, .one (.eptr fsE)), (1000006, .one (.eptr acE))] (mcS l p2 c (⟨t1.t, ex0⟩))) zle ?_
 have h1 := zST l ho p2 hf2
 generalize xpF l ⟨p2, 0⟩ = A at h1 ⊢
 obtain ⟨x, p3, e1⟩ := A
 dsimp only at h1 ⊢
 by_cases he : e1 = 0
 rotate_left
 ·refine zPQ 1 900000 mk2 (fun u => (h1 u).2 he) fun _ => ?_
  exact ⟨fun hh => absurd hh he, fun _ => ⟨rfl, zKa rfl rfl rfl rfl rfl rfl⟩⟩
 subst he
 simp only [zAp x] at h1
 refine zQ 900000 mk2 (fun u => (h1 u).1 trivial) ?_
 refine zAq (s' := St.of [(0, .one (.ptr 900006 0 0)), (1, .one (.ptr 1 0 0)), (900000, .one (.ptr 900000 0 0)), (900006, .one (.ptr 900006 0 0)) , (1000003, .one (.eptr spE)), (1000005, .one (.eptr fsE)), (1000006, .one (.eptr acE))] (mcS l p3 c (⟨t1.t, x⟩))) zle ?_
 refine zy ?_ ?_
 ·exact zzh
 exact ⟨fun _ => ⟨.inl rfl, _, _, _, rfl, zzp, rfl, fun X => zAh (ad := []) zzi (zAg rfl rfl zzi (zAe rfl rfl rfl (zAe rfl rfl rfl (zAe rfl rfl (zFO zCe c.ss ⟨t1.t, x⟩) zm))))⟩, fun hh => absurd rfl hh⟩
def spD : List (Nat × Nat) := [(900000, 31), (900006, 1), (900007, 1)]
theorem zO9 {s : St} {c c' c2 : Cs} (h1 : s.tm 900000 = .one (.ptr 900000 0 0)) (h2 : s.mem 900000 = some ⟨0, .box c, 0⟩) (h3 : c.d0.length = 31) (h4 : s.tm 900006 = .one (.ptr 900006 0 0)) (h5 : s.mem 900006 = some ⟨0, .box c', 0⟩) (h6 : c'.d0.length = 1) (h7 : s.tm 900007 = .one (.ptr 900007 0 0)) (h8 : s.mem 900007 = some ⟨0, .box c2, 0⟩) (h9 : c2.d0.length = 1) : ∀ y ∈ spD, s.tm y.1 = .one (.ptr y.1 0 0) /\ ∃ c, s.mem y.1 = some ⟨0, .box c, 0⟩ /\ c.d0.length = y.2 := fun y hy => by
 rcases List.mem_cons.1 hy with rfl | hy
 ·exact ⟨h1, c, h2, h3⟩
 rcases List.mem_cons.1 hy with rfl | hy
 ·exact ⟨h4, c', h5, h6⟩
 ·rw [List.mem_singleton.1 hy]
  exact ⟨h7, c2, h8, h9⟩
def mqC (l : List Tok) (p : Nat) (c : Cmd) : List (Nat × Blk) := [(900000, ⟨0, .box (.ds (bxC l p c)), 0⟩), (900001, ⟨0, .row 3 (c.cs.map zCm), 0⟩), (900002, ⟨0, .row 4 (c.ro.map zBw), 0⟩), (900003, ⟨0, .row 8 (c.ss.map zCe), 0⟩), (900004, ⟨0, .row 8 (c.q.is.map zBP), 0⟩), (900005, ⟨0, .row 2 (c.q.ss.map zC3), 0⟩), (900006, ⟨0, .box (.ds [.ptr 900000 0 0]), 0⟩), (900007, ⟨0, .box (.ds [.ptr 900000 0 16]), 0⟩)]
def mqS (l : List Tok) (p : Nat) (c : Cmd) (s : QSo) : List (Nat × Blk) := [(900000, ⟨0, .box (.ds (bxC l p c)), 0⟩), (900001, ⟨0, .row 3 (c.cs.map zCm), 0⟩), (900002, ⟨0, .row 4 (c.ro.map zBw), 0⟩), (900003, ⟨0, .row 8 (c.ss.map zCe), 0⟩), (900004, ⟨0, .row 8 (c.q.is.map zBP), 0⟩), (900005, ⟨0, .row 2 (c.q.ss.map zC3), 0⟩), (900006, ⟨0, .box (.ds [.ptr 900000 0 0]), 0⟩), (900007, ⟨0, .box (.ds [.ptr 900000 0 16]), 0⟩), (2, ⟨0, .box (.es (zC3 s)), 0⟩)]
def zJo : Tok := wdT [68, 69, 83, 67]
def zHk (l : List Tok) : Stp := fun c s =>
 ({ c with q := { c.q with ss := c.q.ss ++ [⟨(zBl l s 3).1.i, zAc l (zBl l s 3).2 zJo⟩] } },
  if zAc l (zBl l s 3).2 zJo = true then ⟨(zBl l s 3).2.p + 1, (zBl l s 3).2.e⟩ else (zBl l s 3).2)
theorem zVG (l : List Tok) (ho : zAW l) (hL : l.length <= 100) (p : Nat) (c : Cmd) (hp : p <= l.length) (hz : Szs c p) : zEU Tryz.prog spD 84 (gY) (mqC l p c) [.one (.ptr 900006 0 0), .one (.ptr 900007 0 0)] ((zHk l c ⟨p, 0⟩).2.e = 0) (.tup []) (mqC l (zHk l c ⟨p, 0⟩).2.p (zHk l c ⟨p, 0⟩).1) (chT (zHk l c ⟨p, 0⟩).2) := by
 refine zFX 24 Tryz.func84 fun X hnt => ?_
 unfold zHk
 have hz2 : (c.q.ss.map zC3).length <= 100 := Nat.le_trans (Nat.le_of_eq (List.length_map ..)) <| Nat.le_trans hz.so (Nat.le_trans hp hL)
 have h1 := zNf l ho p 3 (by decide)
 generalize zBl l ⟨p, 0⟩ 3 = A at h1 ⊢
 obtain ⟨t1, p1, e1⟩ := A
 dsimp only at h1 ⊢
 by_cases he : e1 = 0
 rotate_left
 ·simp only [zDU he, ifB]
  refine zPQ 3 900000 mk2 (fun u => (h1 u).2 he) fun _ => ?_
  exact ⟨fun hh => absurd hh he, fun _ => ⟨rfl, zO9 rfl rfl rfl rfl rfl rfl rfl rfl rfl⟩⟩
 subst he
 refine zQ 900000 mk2 (fun u => (h1 u).1 rfl) ?_
 clear h1
 refine zAq (s' := St.of [(0, .one (.ptr 900006 0 0)), (1, .one (.ptr 900007 0 0)), (2, .one (.ptr 2 0 0)), (900000, .one (.ptr 900000 0 0)), (900006, .one (.ptr 900006 0 0)), (900007, .one (.ptr 900007 0 0)) , (1000003, .one (.eptr spE)), (1000005, .one (.eptr fsE)), (1000006, .one (.eptr acE))] (mqS l p1 c (⟨t1.i, false⟩))) zle ?_
 have hk := fun u => zCg l ho.1 p1 u 2 [68, 69, 83, 67]
 refine zQ 900000 mk2 hk ?_
 clear hk
 cases hs : zAc l ⟨p1, 0⟩ ⟨2, [68, 69, 83, 67], 0, 0⟩ with
 | true =>
  rw [show zAc l ⟨p1, 0⟩ zJo = true from hs, if_pos rfl]
  refine zAq (s' := St.of [(0, .one (.ptr 900006 0 0)), (1, .one (.ptr 900007 0 0)), (2, .one (.ptr 2 0 0)), (900000, .one (.ptr 900000 0 0)), (900006, .one (.ptr 900006 0 0)), (900007, .one (.ptr 900007 0 0)) , (1000003, .one (.eptr spE)), (1000005, .one (.eptr fsE)), (1000006, .one (.eptr acE))] (mqS l (p1 + 1) c (⟨t1.i, true⟩))) zle ?_
  refine zy ?_ ?_
  ·exact zzh
  exact ⟨fun _ => ⟨.inl rfl, _, _, _, rfl, zzp, rfl, fun X => zAh (ad := []) zzi (zAg rfl rfl zzi (zAe rfl rfl rfl (zAe rfl rfl rfl (zAe rfl rfl rfl (zAe rfl rfl rfl (zAe rfl rfl (zFO zC3 c.q.ss ⟨t1.i, true⟩) zm))))))⟩, fun hh => absurd rfl hh⟩
 | false =>
  rw [show zAc l ⟨p1, 0⟩ zJo = false from hs, ifB]
  refine zAq (s' := St.of [(0, .one (.ptr 900006 0 0)), (1, .one (.ptr 900007 0 0)), (2, .one (.ptr 2 0 0)), (900000, .one (.ptr 900000 0 0)), (900006, .one (.ptr 900006 0 0)), (900007, .one (.ptr 900007 0 0)) , (1000003, .one (.eptr spE)), (1000005, .one (.eptr fsE)), (1000006, .one (.eptr acE))] (mqS l p1 c (⟨t1.i, false⟩))) zle ?_
  refine zy ?_ ?_
  ·exact zzh
  exact ⟨fun _ => ⟨.inl rfl, _, _, _, rfl, zzp, rfl, fun X => zAh (ad := []) zzi (zAg rfl rfl zzi (zAe rfl rfl rfl (zAe rfl rfl rfl (zAe rfl rfl rfl (zAe rfl rfl rfl (zAe rfl rfl (zFO zC3 c.q.ss ⟨t1.i, false⟩) zm))))))⟩, fun hh => absurd rfl hh⟩
theorem zOE (l : List Tok) (ho : zAW l) (s : Spot) (k : Int) (hk0 : k ≠ 0) : FnG Tryz.prog 29 gK [.agg (.es (eSp l s)), .one (.e (eI k))] (.tup [(true, .es (zBO (zBl l s k).1)), (true, .es (eSp l (zBl l s k).2))]) := by
 refine zG 30 Tryz.func29 fun X hnt => ?_
 have h0 : ((eSp l s).getD (0 + 2) E.dflt).int = s.e := rfl
 have h1 : ((eSp l s).getD (0 + 0) E.dflt).xs.length = l.length := List.length_map ..
 have h2 : ((eSp l s).getD (0 + 1) E.dflt).int = (s.p : Int) := rfl
 have hm' : l.length <= 9223372036854775807 := Nat.le_trans ho.1 (by decide)
 have hk := zIx l ho s
 repeat' first | refine zx ?_ | apply zn
 repeat' apply zn
 refine zAa (zzx hnt rfl ?_ (callVG rfl rfl rfl rfl rfl rfl hnt rfl (fun hq => ?_) rfl (fun hq => hk) (zzx hnt rfl ?_ (Lex.nil _)))) ?_
 ·exact zza
 ·exact zza
 ·exact zza
 refine zc (fun hc => ?_) fun hc => ?_
 ·simp only [zz] at hc
  (try simp only [h0, h1, h2] at hc)
  (try simp only [zz] at hc)
  have hn : ¬ zAU l s = k := fun h => by
   have he : s.e = 0 := by
    by_cases he : s.e = 0
    ·exact he
    ·exact absurd ((zFb he).symm.trans h).symm hk0
   simp [he, h] at hc
  unfold zBl
  rw [if_neg hn]
  have hb := zKq l s
  refine zC hb ?_
  exact zAb ⟨.inr rfl, _, _, rfl, zzp, rfl⟩
 simp only [zz] at hc
 (try simp only [h0, h1, h2] at hc)
 (try simp only [zz] at hc)
 have hn : zAU l s = k := by
  by_cases h : zAU l s = k
  ·exact h
  ·simp [h] at hc
 have he0 := zCj (l := l) (s := s) (by rw [hn]; exact hk0)
 obtain ⟨he, hlt, _, _⟩ := he0
 unfold zBl
 rw [if_pos hn]
 refine zxa ?_
 refine zAq (s' := St.of [(1, .one (.e (eI k))), (2, .one (.ptr 2 0 0)), (4, .one (.ptr 4 0 0)), (5, .one (.ptr 5 0 0))] [(2, ⟨0, .box (.es (eSp l ⟨s.p + 1, s.e⟩)), 0⟩), (4, ⟨0, .box (.es (zBO zBj)), 0⟩), (5, ⟨0, .box (.ds [.nil, .e (eI 0), .e (eI 0)]), 0⟩)]) (zAh (ad := []) ⟨zzl, zzl, zzl, zzl, trivial⟩ (zAg rfl rfl (zM4 l s.e (p := s.p) (by omega)) zm)) ?_
 have hi : (IntKind.i64.wrap (((eSp l ⟨s.p + 1, s.e⟩).getD (0 + 1) E.dflt).int - 1)) = (s.p : Int) := by
  show IntKind.i64.wrap (((s.p + 1 : Nat) : Int) - 1) = _
  rw [zAf (by omega) (by omega)]
  omega
 have hg : ((eSp l ⟨s.p + 1, s.e⟩).getD (0 + 0) E.dflt).xs.getD (IntKind.i64.wrap (((eSp l ⟨s.p + 1, s.e⟩).getD (0 + 1) E.dflt).int - 1)).toNat [] = zBO (l.getD s.p zBj) := by
  rw [hi]
  exact zDQ l hlt
 have h1' : ((eSp l ⟨s.p + 1, s.e⟩).getD (0 + 0) E.dflt).xs.length = l.length := List.length_map ..
 refine zy ?_ ?_
 ·rw [hg, hi, h1']
  exact zza
 rw [hg]
 exact zAb ⟨.inr rfl, _, _, rfl, zzp, rfl⟩
structure Wrd (l : List Tok) (w : Byt) : Prop where
 tk : Tks w [wdT w]
 ps : ∀ s, Pst l s w [wdT w]
theorem zRK (l : List Tok) (s : Spot) (w : Byt) (hw : Wrd l w) : FnG Tryz.prog 67 ([(3, spE)]) [.agg (.es (eSp l s)), .one (.e (eT w))] (.tup [(false, .es [eBl (zAc l s (wdT w))]), (true, .es (eSp l (if zAc l s (wdT w) = true then ⟨s.p + 1, s.e⟩ else s)))]) := by
 refine zG 13 Tryz.func67 fun X hnt => ?_
 have hsn := zAT l s w (wdT w) [] hw.tk
 have hps := hw.ps s
 unfold Pst at hps
 repeat' first | refine zx ?_ | apply zn
 cases hs : zAc l s (wdT w) with
 | true =>
  rw [hs] at hsn
  rw [zA6 hs] at hps
  refine zV hsn ?_
  refine zc (fun hc => ?_) fun hc => ?_
  ·refine zV hps ?_
   exact zAb ⟨.inr rfl, _, _, rfl, zzp, rfl⟩
  exact absurd hc Bool.noConfusion
 | false =>
  rw [hs] at hsn
  refine zV hsn ?_
  refine zc (fun hc => ?_) fun hc => ?_
  ·exact absurd hc Bool.noConfusion
  repeat' first | refine zx ?_ | apply zn
  exact zAb ⟨.inr rfl, _, _, rfl, zzp, rfl⟩
theorem zBe {l : List Tok} (hm : l.length <= maxLen) {w : Byt} (hF : Fld w [w]) (hk : wtk w = wdT w) (h0 : 0 < w.length) : Wrd l w :=
 ⟨by have := tk1 hF h0; rwa [hk] at this, fun s => by have := zBr l hm s w [w] hF (zP6 (tk1 hF h0)) (Nat.le_of_ble_eq_true rfl); unfold Pst; rwa [List.map_cons, List.map_nil, hk] at this⟩
def agW : List Byt := [[], [67, 79, 85, 78, 84], [83, 85, 77], [77, 73, 78], [77, 65, 88]]
def kwE : List E := kdW.map eT
def agE : List E := agW.map eT
def rgE : List E := rwW.map eT
def gDc : List (Nat × List E) := [(0, kwE), (1, agE), (2, rgE), (3, spE), (4, mkE), (5, fsE), (6, acE)]
theorem zWW : Fld [46] [[46]] := zzF
theorem zXh (l : List Tok) (hm : l.length <= maxLen) (s : Spot) : Pst l s [46] [zRp] := zBr l hm s [46] [[46]] zWW (zP6 (tk1 zWW (by decide))) (by decide)
theorem zRr (l : List Tok) (ho : zAW l) (s : Spot) (c : Cmd) : FnH Tryz.prog 69 (gDc) (mdC c) [.agg (.es (eSp l s)), ptS] (.agg (.es (eSp l (zJp l c s).2))) (mdC (zJp l c s).1) := by
 refine zFH 29 Tryz.func69 fun X hnt => ?_
 unfold zJp
 have h1 := zOE l ho s 3 (by decide)
 generalize zBl l s 3 = A at h1 ⊢
 obtain ⟨t1, s1⟩ := A
 have h2 := zXh l ho.1 s1
 unfold Pst at h2
 generalize zAk l s1 [zRp] = s2 at h2 ⊢
 have h3 := zOE l ho s2 1 (by decide)
 generalize zBl l s2 1 = A at h3 ⊢
 obtain ⟨t2, s3⟩ := A
 dsimp only at h1 h3 ⊢
 repeat' first | refine zx ?_ | fail
 refine zV h1 ?_
 repeat' apply zn
 refine zAa (zzx hnt rfl ?_ (callV rfl rfl rfl rfl rfl rfl rfl hnt rfl (h2) (zzx hnt rfl ?_ (callV rfl rfl rfl rfl rfl rfl rfl hnt rfl (h3) (zzx hnt rfl ?_ (Lex.nil _)))))) ?_
 ·exact zzt
 ·exact zzt
 ·exact zzt
 refine zxa ?_
 repeat' first | refine zx ?_ | apply zn
 exact zAb ⟨.inr rfl, _, _, _, rfl, zzp, rfl, fun X => zle⟩
theorem zVV (l : List Tok) (hm : l.length <= maxLen) (s : Spot) : Pst l s [68, 82, 65, 87, 69, 82] [zKD] := zBr l hm s _ [[68, 82, 65, 87, 69, 82]] zWh (zP6 (tk1 zWh (by decide))) (by decide)
theorem zIZ (l : List Tok) (ho : zAW l) (s : Spot) (c : Cmd) : FnH Tryz.prog 24 (gDc) (mdC c) [.agg (.es (eSp l s)), ptS] (.agg (.es (eSp l (zHw l c s).2))) (mdC (zHw l c s).1) := by
 refine zFH 20 Tryz.func24 fun X hnt => ?_
 unfold zHw
 have h1 := zRr l ho s c
 generalize zJp l c s = A at h1 ⊢
 obtain ⟨c1, s1⟩ := A
 have h2 := zVV l ho.1 s1
 unfold Pst at h2
 dsimp only at h1 h2 ⊢
 generalize zAk l s1 [zKD] = s2 at h2 ⊢
 have h3 := zOE l ho s2 3 (by decide)
 generalize zBl l s2 3 = A at h3 ⊢
 obtain ⟨t2, s3⟩ := A
 dsimp only at h3 ⊢
 repeat' first | refine zx ?_ | apply zn
 repeat' apply zn
 refine zAa (zzx hnt rfl ?_ (zA9 (us := []) [(900000, 900000)] kr kr rfl rfl rfl rfl (h1) zg (fun _ => rfl) rfl rfl hnt rfl rfl zzi zzi (zzx hnt rfl ?_ (callV rfl rfl rfl rfl rfl rfl rfl hnt rfl (h2) (zzx hnt rfl ?_ (callV rfl rfl rfl rfl rfl rfl rfl hnt rfl (h3) (zzx hnt rfl ?_ (Lex.nil _)))))))) ?_
 ·exact zzt
 ·exact zzt
 ·exact zzt
 ·exact zzt
 repeat' first | refine zx ?_ | apply zn
 exact zAb ⟨.inr rfl, _, _, _, rfl, zzp, rfl, fun X => zle⟩
theorem zXv : Fld [87, 72, 69, 82, 69] [[87, 72, 69, 82, 69]] := zzF
theorem zW1 (l : List Tok) (hm : l.length <= maxLen) : Wrd l [87, 72, 69, 82, 69] := zBe hm zXv rfl (by decide)
theorem xpD (l : List Tok) (ho : zAW l) (s : Spot) (hp : s.p <= l.length) : Clb l 0 s (xpF l s) := zKi l ho (l.length * 8 + 8) 0 s (by decide) hp (by unfold Mz; split <;> omega)
theorem zS0 (l : List Tok) (ho : zAW l) (s : Spot) (hp : s.p <= l.length) : FnG Tryz.prog 31 (gZ) [.agg (.es (eSp l s))] (zIo l (whF l s)) := by
 refine zG 14 Tryz.func31 fun X hnt => ?_
 have hw := zW1 l ho.1
 have hsn := zAT l s [87, 72, 69, 82, 69] zMV [] hw.tk
 have hps := hw.ps s
 unfold Pst at hps
 unfold whF
 repeat' first | refine zx ?_ | apply zn
 cases hs : zAc l s zMV with
 | true =>
  have hlt := (zAw.1 hs).2.1
  rw [hs] at hsn
  rw [if_pos rfl]
  have hps : FnG Tryz.prog 23 [(3, spE)] [.agg (.es (eSp l s)), .one (.e (eT [87, 72, 69, 82, 69]))] (.agg (.es (eSp l (zAk l s [zMV])))) := hps
  have hx := xpD l ho (zAk l s [zMV]) ((zAo l [zMV] s).2 hp)
  unfold Clb zIo at hx
  generalize xpF l (zAk l s [zMV]) = A at hx ⊢
  obtain ⟨⟨o, v, n, r⟩, s2⟩ := A
  unfold zIo
  dsimp only at hx ⊢
  rw [zBZ] at hx ⊢
  refine zV hsn ?_
  refine zc (fun hc => ?_) fun hc => ?_
  ·exact absurd hc Bool.noConfusion
  repeat' apply zn
  refine zAa (zzx hnt rfl ?_ (callV rfl rfl rfl rfl rfl rfl rfl hnt rfl (hps) (zzx hnt rfl ?_ (callV rfl rfl rfl rfl rfl rfl rfl hnt rfl (hx) (zzx hnt rfl ?_ (Lex.nil _)))))) ?_
  ·exact zzt
  ·exact zzt
  ·exact zzt
  exact zAb ⟨.inr rfl, _, _, rfl, zzp, rfl⟩
 | false =>
  rw [hs] at hsn
  rw [ifB]
  refine zV hsn ?_
  refine zc (fun hc => ?_) fun hc => ?_
  ·repeat' first | refine zx ?_ | apply zn
   exact zAb ⟨.inr rfl, _, _, rfl, zzp, rfl⟩
  exact absurd hc Bool.noConfusion
theorem zOD (l : List Tok) (ho : zAW l) (s : Spot) (ws : List Byt) (hn : ws.length <= 100) (hw : ∀ w ∈ ws, w ≠ [] -> Wrd l w) : FnG Tryz.prog 21 (gDc) [.agg (.es (eSp l s)), .one (.e (.sl (ws.map fun t => [eT t])))] (.tup [(false, .es [eI (ooF l s 0 ws).1]), (true, .es (eSp l (ooF l s 0 ws).2))]) := by
 refine zG 29 Tryz.func21 fun X hnt => ?_
 have lw : (ws.map fun t => [eT t]).length = ws.length := List.length_map ..
 repeat' first | refine zx ?_ | apply zn
 repeat' apply zn
 refine zAx (σ := Nat) (fun i => St.of [(2, .one (.ptr 2 0 0)), (5, .one (.ptr 5 0 0)), (8, .one (.e (.sl (ws.map fun t => [eT t])))), (9, .one (.e (eI ((ws.map fun t => [eT t]).length : Int)))), (10, .one (.e (eI (i : Int)))), (1000000, .one (.eptr kwE)), (1000001, .one (.eptr agE)), (1000002, .one (.eptr rgE)), (1000003, .one (.eptr spE)), (1000004, .one (.eptr mkE)), (1000005, .one (.eptr fsE)), (1000006, .one (.eptr acE))] [(2, ⟨0, .box (.es (eSp l s)), 0⟩), (5, ⟨0, .box (.ds [.nil, .e (eI 0), .e (eI 0)]), 0⟩)]) (fun i => i <= ws.length /\ ooF l s 0 ws = ooF l s (i : Int) (ws.drop i)) (fun i => ws.length - i) (0) (zAh (ad := []) ⟨zzl, zzl, zzl, zzl, zzl, zzl, zzl, zzl, zzl, zzl, zzl, zzl, trivial⟩ zm) ⟨Nat.zero_le _, rfl⟩ ?_
 rintro i ⟨il, hJ⟩
 repeat' first | refine zx ?_ | fail
 refine zc (fun hc => ?_) fun hc => ?_
 ·simp only [zz] at hc
  (try simp only [lw] at hc)
  (try simp only [zz] at hc)
  have hlt : i < ws.length := by omega
  have hg : (ws.map fun t => [eT t]).getD i [] = [eT (ws.getD i [])] := by
   rw [List.getD_eq_getElem?_getD, List.getElem?_map, List.getElem?_eq_getElem hlt, List.getD_eq_getElem?_getD, List.getElem?_eq_getElem hlt]
   rfl
  have hwi := hw (ws.getD i []) (by rw [List.getD_eq_getElem?_getD, List.getElem?_eq_getElem hlt]; exact List.getElem_mem hlt)
  have hdr : ws.drop i = ws.getD i [] :: ws.drop (i + 1) := by
   rw [List.drop_eq_getElem_cons hlt, List.getD_eq_getElem?_getD, List.getElem?_eq_getElem hlt]
   rfl
  rw [hdr, ooF] at hJ
  refine zy ?_ ?_
  ·rw [Int.toNat_natCast, hg, lw]
   exact zza
  rw [Int.toNat_natCast, hg]
  generalize ws.getD i [] = x at *
  have e0 : (!zA1 ([eT x].getD 0 E.dflt).str { data := #[] }) = !decide (x = []) := congrArg (!·) (zAY x [])
  repeat' apply zn
  refine zAa (zzx hnt rfl ?_ (callVG rfl rfl rfl rfl rfl rfl hnt rfl (fun hq => ?_) rfl (fun hq => (zAT l s x (wdT x) [] (hwi (fun he => by have h := e0.symm.trans hq; simp [he] at h)).tk)) (zzx hnt rfl ?_ (Lex.nil _)))) ?_
  ·exact zza
  ·exact zza
  ·exact zza
  rw [e0]
  refine zc (fun hc => ?_) fun hc => ?_
  ·have hc : x ≠ [] /\ zAc l s (wdT x) = true := by
    by_cases hx : x = []
    ·simp [hx] at hc
    ·simp [hx] at hc
     exact ⟨hx, hc⟩
   rw [if_pos hc] at hJ
   rw [hJ]
   have hps := (hwi hc.1).ps s
   unfold Pst at hps
   rw [zA6 hc.2] at hps
   refine zV hps ?_
   exact zAb ⟨.inr rfl, _, _, rfl, zzp, rfl⟩
  have hc : ¬ (x ≠ [] /\ zAc l s (wdT x) = true) := fun ⟨h1, h2⟩ => by
   simp [h1, h2] at hc
  rw [if_neg hc] at hJ
  repeat' first | refine zx ?_ | apply zn
  refine ⟨i + 1, ⟨hlt, hJ⟩, by omega, zAh (ad := []) ⟨zzl, zzl, zzl, zzl, zzl, zzl, zzl, zzl, zzl, zzl, zzl, zzl, trivial⟩ zm⟩
 simp only [zz] at hc
 (try simp only [lw] at hc)
 (try simp only [zz] at hc)
 have hi : i = ws.length := by omega
 subst hi
 rw [List.drop_length, ooF] at hJ
 refine zAt ?_
 rw [hJ]
 have hb := zKq l s
 refine zC hb ?_
 exact zAb ⟨.inr rfl, _, _, rfl, zzp, rfl⟩
def mdP (c : Cmd) (off : Nat) : List (Nat × Blk) := [(900000, ⟨0, .box (.ds (bdC c)), 0⟩), (900001, ⟨0, .row 3 (c.cs.map zCm), 0⟩), (900002, ⟨0, .row 4 (c.ro.map zBw), 0⟩), (900003, ⟨0, .row 8 (c.ss.map zCe), 0⟩), (900004, ⟨0, .row 8 (c.q.is.map zBP), 0⟩), (900005, ⟨0, .row 2 (c.q.ss.map zC3), 0⟩), (900006, ⟨0, .box (.ds [.ptr 900000 0 off]), 0⟩)]
def zXm (l : List Tok) (s : Spot) (c : Cmd) (off : Nat) : List (Nat × Blk) := [(900000, ⟨0, .box (.ds (bdC c)), 0⟩), (900001, ⟨0, .row 3 (c.cs.map zCm), 0⟩), (900002, ⟨0, .row 4 (c.ro.map zBw), 0⟩), (900003, ⟨0, .row 8 (c.ss.map zCe), 0⟩), (900004, ⟨0, .row 8 (c.q.is.map zBP), 0⟩), (900005, ⟨0, .row 2 (c.q.ss.map zC3), 0⟩), (900006, ⟨0, .box (.ds [.ptr 900000 0 off]), 0⟩), (2, ⟨0, .box (.es (eSp l s)), 0⟩), (4, ⟨0, .box (.ds [.nil, .e (eI 0), .e (eI 0)]), 0⟩)]
def zTv (l : List Tok) (f off : Nat) (g : Stp) : Prop := ∀ s c, s.p <= l.length -> Szs c 300 -> FnH Tryz.prog f gDc (mdP c off) [.agg (.es (eSp l s)), .one (.ptr 900006 0 0)] (.agg (.es (eSp l (g c s).2))) (mdP (g c s).1 off)
theorem zOQ (l : List Tok) (ho : zAW l) (hL : l.length <= 100) (s0 : Spot) (c0 : Cmd) (f off : Nat) (hf9 : Nat.ble 1048576 f = false) (g : Stp) (hf : zTv l f off g) (hw : Fw l g) (hz : SzD g) (hp0 : s0.p <= l.length) (hz0 : Szs c0 150) : FnH Tryz.prog 25 (gDc) (mdP c0 off) [.agg (.es (eSp l s0)), .one (.clo f [(900006, 0, 0)])] (.agg (.es (eSp l (zBk l g (l.length + 1) c0 s0).2))) (mdP (zBk l g (l.length + 1) c0 s0).1 off) := by
 refine zFH 15 Tryz.func25 fun X hnt => ?_
 have hm' : l.length <= 9223372036854775807 := Nat.le_trans ho.1 (by decide)
 have h1 := hf s0 c0 hp0 (hz0.mono (by decide))
 have hz1 := hz c0 s0 150 hz0
 have hfw := hw c0 s0
 rw [zBg]
 generalize g c0 s0 = A at h1 hz1 hfw ⊢
 obtain ⟨c1, s1⟩ := A
 dsimp only at h1 hz1 hfw ⊢
 repeat' first | refine zx ?_ | fail
 refine zH [(900000, 900000), (900006, 900006)] kr kr h1 ?_
 repeat' apply zn
 refine zAx (σ := Nat × Cmd × Spot) (fun x => St.of [(1, .one (.clo f [(900006, 0, 0)])), (2, .one (.ptr 2 0 0)), (4, .one (.ptr 4 0 0)), (900000, .one (.ptr 900000 0 0)), (900006, .one (.ptr 900006 0 0)) , (1000000, .one (.eptr kwE)), (1000001, .one (.eptr agE)), (1000002, .one (.eptr rgE)), (1000003, .one (.eptr spE)), (1000004, .one (.eptr mkE)), (1000005, .one (.eptr fsE)), (1000006, .one (.eptr acE))] (zXm l x.2.2 x.2.1 off)) (fun x => zBq l g x.1 x.2.1 x.2.2 = zBq l g l.length c1 s1 /\ x.2.2.p <= l.length /\ l.length - x.2.2.p <= x.1 /\ Szs x.2.1 (151 + x.2.2.p)) (fun x => x.1) (l.length, c1, s1) zle ⟨rfl, hfw.2 hp0, Nat.sub_le _ _, hz1.mono (by omega)⟩ ?_
 rintro ⟨n, c, s⟩ ⟨hJ, hp, hn, hsz⟩
 dsimp only at hJ hp hn hsz ⊢
 clear h1 hfw hz1
 have hsn := zAT l s [44] zFo [] (tk1 zIK (by decide))
 cases hs : zAc l s zFo with
 | true =>
  have hlt := (zAw.1 hs).2.1
  rw [hs] at hsn
  refine zV hsn ?_
  refine zc (fun hc => ?_) fun hc => ?_
  ·obtain ⟨m, rfl⟩ : ∃ m, n = m + 1 := ⟨n - 1, by omega⟩
   have hJ2 : zBq l g (m + 1) c s = zBq l g m (g c ⟨s.p + 1, s.e⟩).1 (g c ⟨s.p + 1, s.e⟩).2 := by
    rw [zBq, if_pos hs, zBg]
   rw [hJ2] at hJ
   have hps := zWJ l ho.1 s
   unfold Pst at hps
   rw [zA6 hs] at hps
   have h1 := hf ⟨s.p + 1, s.e⟩ c hlt (hsz.mono (by omega))
   have hfw := hw c ⟨s.p + 1, s.e⟩
   have hz1 := hz c ⟨s.p + 1, s.e⟩ _ hsz
   generalize g c ⟨s.p + 1, s.e⟩ = A at h1 hfw hz1 hJ
   obtain ⟨c2, s2⟩ := A
   dsimp only at h1 hfw hz1 hJ
   repeat' apply zn
   refine zAa (zzx hnt rfl ?_ (callV rfl rfl rfl rfl rfl rfl rfl hnt rfl (hps) (zzx hnt rfl ?_ (zA9 (us := []) [(900000, 900000), (900006, 900006)] kr kr rfl rfl rfl rfl (h1) zg (fun _ => rfl) rfl rfl hnt rfl rfl zzi zzi (zzx hnt rfl ?_ (Lex.nil _)))))) ?_
   ·exact zzt
   ·exact zzt
   ·exact zzt
   exact ⟨(m, c2, s2), ⟨hJ, hfw.2 hlt, (by have h3 := hfw.1; show l.length - s2.p <= m; omega), hz1.mono (by have h3 := hfw.1; show 151 + s.p + 1 <= 151 + s2.p; omega)⟩, Nat.lt_succ_self m, zle⟩
  exact absurd hc Bool.noConfusion
 | false =>
  rw [hs] at hsn
  refine zV hsn ?_
  refine zc (fun hc => ?_) fun hc => ?_
  ·exact absurd hc Bool.noConfusion
  refine zAt ?_
  rw [<-hJ]
  unfold zBq
  rw [if_neg (by rw [hs]; exact Bool.noConfusion)]
  repeat' first | refine zx ?_ | apply zn
  exact zAb ⟨.inr rfl, _, _, _, rfl, zzp, rfl, fun X => zle⟩
theorem fk1 : Fld [66, 79, 79, 76] [[66, 79, 79, 76]] := zzF
theorem fk2 : Fld [73, 78, 84] [[73, 78, 84]] := zzF
theorem fk3 : Fld [82, 69, 65, 76] [[82, 69, 65, 76]] := zzF
theorem fk4 : Fld [84, 69, 88, 84] [[84, 69, 88, 84]] := zzF
theorem zWb (l : List Tok) (hm : l.length <= maxLen) : ∀ w ∈ kdW, w ≠ [] -> Wrd l w := fun w hw hn => by
 unfold kdW at hw
 simp only [List.mem_cons, List.not_mem_nil, or_false] at hw
 rcases hw with rfl | rfl | rfl | rfl | rfl
 ·exact absurd rfl hn
 ·exact zBe hm fk1 rfl (by decide)
 ·exact zBe hm fk2 rfl (by decide)
 ·exact zBe hm fk3 rfl (by decide)
 ·exact zBe hm fk4 rfl (by decide)
theorem zVA (l : List Tok) (hm : l.length <= maxLen) : Wrd l [78, 79, 84] := zBe hm zGm rfl (by decide)
theorem zVz (l : List Tok) (hm : l.length <= maxLen) : Wrd l [78, 85, 76, 76] := zBe hm zGl rfl (by decide)
theorem zXM (l : List Tok) (ho : zAW l) (s : Spot) (c : Cmd) (hz : Szs c 300) : FnH Tryz.prog 66 (gDc) (mdP c 0) [.agg (.es (eSp l s)), .one (.ptr 900006 0 0)] (.agg (.es (eSp l (zG8 l c s).2))) (mdP (zG8 l c s).1 0) := by
 refine zFH 42 Tryz.func66 fun X hnt => ?_
 have hz2 : (c.cs.map zCm).length <= 300 := Nat.le_trans (Nat.le_of_eq (List.length_map ..)) hz.cs
 unfold zG8
 have h1 := zOE l ho s 1 (by decide)
 generalize zBl l s 1 = A at h1 ⊢
 obtain ⟨t1, s1⟩ := A
 have h2 := zOD l ho s1 kdW (by decide) (zWb l ho.1)
 dsimp only at h1 h2 ⊢
 generalize ooF l s1 0 kdW = A at h2 ⊢
 obtain ⟨k, s2⟩ := A
 have h3 := zRK l s2 [78, 79, 84] (zVA l ho.1)
 have h4 := (zVz l ho.1).ps ⟨s2.p + 1, s2.e⟩
 unfold Pst at h4
 dsimp only at h2 h3 h4 ⊢
 repeat' first | refine zx ?_ | fail
 refine zV h1 ?_
 refine zVD h2 ?_
 cases hs : zAc l s2 zIe with
 | true =>
  rw [show zAc l s2 (wdT [78, 79, 84]) = true from hs, if_pos rfl] at h3
  rw [if_pos rfl, zAQ, if_pos hs]
  refine zV h3 ?_
  refine zx ?_
  refine zc (fun hc => ?_) fun hc => ?_
  ·refine zV h4 ?_
   refine zy ?_ ?_
   ·exact zzh
   repeat' first | refine zx ?_ | apply zn
   exact zAb ⟨.inr rfl, _, _, _, rfl, zzp, rfl, fun X => zAh (ad := []) zzi (zAg rfl rfl zzi (zAe rfl rfl (zFO zCm c.cs ⟨t1.t, k, !true⟩) zm))⟩
  exact absurd hc Bool.noConfusion
 | false =>
  rw [show zAc l s2 (wdT [78, 79, 84]) = false from hs, ifB] at h3
  rw [ifB]
  refine zV h3 ?_
  refine zx ?_
  refine zc (fun hc => ?_) fun hc => ?_
  ·exact absurd hc Bool.noConfusion
  refine zy ?_ ?_
  ·exact zzh
  repeat' first | refine zx ?_ | apply zn
  exact zAb ⟨.inr rfl, _, _, _, rfl, zzp, rfl, fun X => zAh (ad := []) zzi (zAg rfl rfl zzi (zAe rfl rfl (zFO zCm c.cs ⟨t1.t, k, !false⟩) zm))⟩
theorem zU4 (l : List Tok) (ho : zAW l) : zTv l 66 0 (zG8 l) := fun s c hp hz => zXM l ho s c hz
theorem zXy : Fld [68, 69, 83, 67] [[68, 69, 83, 67]] := zzF
theorem zW7 (l : List Tok) (hm : l.length <= maxLen) : Wrd l [68, 69, 83, 67] := zBe hm zXy rfl (by decide)
theorem zXa (l : List Tok) (ho : zAW l) (s : Spot) (c : Cmd) (hz : Szs c 300) : FnH Tryz.prog 74 (gDc) (mdP c 14) [.agg (.es (eSp l s)), .one (.ptr 900006 0 0)] (.agg (.es (eSp l (zHk l c s).2))) (mdP (zHk l c s).1 14) := by
 refine zFH 30 Tryz.func74 fun X hnt => ?_
 have hz2 : (c.q.ss.map zC3).length <= 300 := Nat.le_trans (Nat.le_of_eq (List.length_map ..)) hz.so
 unfold zHk
 have h1 := zOE l ho s 3 (by decide)
 generalize zBl l s 3 = A at h1 ⊢
 obtain ⟨t1, s1⟩ := A
 have h3 := zRK l s1 [68, 69, 83, 67] (zW7 l ho.1)
 dsimp only at h1 h3 ⊢
 repeat' first | refine zx ?_ | fail
 refine zV h1 ?_
 change FnG _ _ _ _ (.tup [(false, .es [eBl (zAc l s1 zJo)]), (true, .es (eSp l (if zAc l s1 zJo = true then ⟨s1.p + 1, s1.e⟩ else s1)))]) at h3
 generalize (if zAc l s1 zJo = true then (⟨s1.p + 1, s1.e⟩ : Spot) else s1) = s2 at h3 ⊢
 generalize zAc l s1 zJo = b at h3 ⊢
 refine zV h3 ?_
 refine zy ?_ ?_
 ·exact zzh
 repeat' first | refine zx ?_ | apply zn
 exact zAb ⟨.inr rfl, _, _, _, rfl, zzp, rfl, fun X => zAh (ad := []) zzi (zAg rfl rfl zzi (zAe rfl rfl rfl (zAe rfl rfl rfl (zAe rfl rfl rfl (zAe rfl rfl rfl (zAe rfl rfl (zFO zC3 c.q.ss ⟨t1.i, b⟩) zm))))))⟩
theorem zTT (l : List Tok) (ho : zAW l) : zTv l 74 14 (zHk l) := fun s c hp hz => zXa l ho s c hz
theorem zVU (l : List Tok) (hm : l.length <= maxLen) (s : Spot) : Pst l s [61] [zP5] := zBr l hm s [61] [[61]] zWl (zP6 (tk1 zWl (by decide))) (by decide)
theorem zXc (l : List Tok) (ho : zAW l) (s : Spot) (c : Cmd) (hp : s.p <= l.length) (hz : Szs c 300) : FnH Tryz.prog 28 (gDc) (mdP c 0) [.agg (.es (eSp l s)), .one (.ptr 900006 0 0)] (.agg (.es (eSp l (zHG l c s).2))) (mdP (zHG l c s).1 0) := by
 refine zFH 31 Tryz.func28 fun X hnt => ?_
 have hz2 : (c.ss.map zCe).length <= 300 := Nat.le_trans (Nat.le_of_eq (List.length_map ..)) hz.ss
 unfold zHG
 have h1 := zOE l ho s 1 (by decide)
 have hf1 := (zBS l s zFp).2 hp
 generalize zBl l s 1 = A at h1 hf1 ⊢
 obtain ⟨t1, s1⟩ := A
 have h2 := zVU l ho.1 s1
 unfold Pst at h2
 have hf2 := (zAo l [zP5] s1).2 hf1
 dsimp only at h1 h2 hf2 ⊢
 generalize zAk l s1 [zP5] = s2 at h2 hf2 ⊢
 have h3 := xpD l ho s2 hf2
 unfold Clb zIo at h3
 generalize xpF l s2 = A at h3 ⊢
 obtain ⟨x, s3⟩ := A
 dsimp only at h3 ⊢
 rw [zAp x] at h3
 repeat' first | refine zx ?_ | fail
 refine zV h1 ?_
 repeat' apply zn
 refine zAa (zzx hnt rfl ?_ (callV rfl rfl rfl rfl rfl rfl rfl hnt rfl (h2) (zzx hnt rfl ?_ (callV rfl rfl rfl rfl rfl rfl rfl hnt rfl (h3) (zzx hnt rfl ?_ (Lex.nil _)))))) ?_
 ·exact zzt
 ·exact zzt
 ·exact zzt
 refine zy ?_ ?_
 ·exact zzh
 repeat' first | refine zx ?_ | apply zn
 exact zAb ⟨.inr rfl, _, _, _, rfl, zzp, rfl, fun X => zAh (ad := []) zzi (zAg rfl rfl zzi (zAe rfl rfl rfl (zAe rfl rfl rfl (zAe rfl rfl (zFO zCe c.ss ⟨t1.t, x⟩) zm))))⟩
theorem zTX (l : List Tok) (ho : zAW l) : zTv l 28 0 (zHG l) := fun s c hp hz => zXc l ho s c hp hz
def zSB (i : Int) : Int := IntKind.i64.wrap (0 - i)
def zEh (l : List Tok) (s : Spot) : Val × Spot :=
 if zAc l s zGx = true then (⟨2, zSB (zBl l ⟨s.p + 1, s.e⟩ 3).1.i, 0, []⟩, (zBl l ⟨s.p + 1, s.e⟩ 3).2) else
 if zAc l s zB8 = true then (zBD, ⟨s.p + 1, s.e⟩) else
 if zAc l s zLK = true then (⟨1, 1, 0, []⟩, ⟨s.p + 1, s.e⟩) else
 if zAc l s zLL = true then (⟨1, 0, 0, []⟩, ⟨s.p + 1, s.e⟩) else
 if zAU l s = 3 then (⟨2, (l.getD s.p zBj).i, 0, []⟩, ⟨s.p + 1, s.e⟩) else
 if zAU l s = 5 then (⟨3, 0, (l.getD s.p zBj).b, []⟩, ⟨s.p + 1, s.e⟩) else
 if zAU l s = 4 then (⟨4, 0, 0, (l.getD s.p zBj).t⟩, ⟨s.p + 1, s.e⟩) else (zBD, zBQ l s)
def zIb (l : List Tok) : Stp := fun c s => ({ c with ro := c.ro ++ [(zEh l s).1] }, (zEh l s).2)
def Ex.val : Ex -> Val
 | .mk _ v _ _ => v
theorem zBB {l : List Tok} {s : Spot} {t u : Tok} (h : zAc l s t = true) (hn : t ≠ u) : zAc l s u = false := by
 cases hu : zAc l s u with
 | false => rfl
 | true => exact absurd ((zAw.1 h).2.2.symm.trans (zAw.1 hu).2.2) hn
theorem zFa {l : List Tok} {s : Spot} {t : Tok} (h : zAc l s t = true) : zAU l s = t.k \/ zAU l s = 0 := by
 obtain ⟨h1, h2, h3⟩ := zAw.1 h
 unfold zAU
 split
 ·exact .inr rfl
 ·exact .inl (by rw [h3])
def zOI (l : List Tok) (s : Spot) : Bool := zAc l s zBf || (zAc l s zDz || (zAc l s zDa || decide (zAU l s = 1)))
theorem zSD {l : List Tok} {s : Spot} (hm : zAc l s zGx = false) (h : zOI l s = true) : zEh l s = (zBD, zBQ l s) := by
 have key : zAc l s zB8 = false /\ zAc l s zLK = false /\ zAc l s zLL = false /\ zAU l s ≠ 3 /\ zAU l s ≠ 5 /\ zAU l s ≠ 4 := by
  unfold zOI at h
  simp only [Bool.or_eq_true, decide_eq_true_eq] at h
  rcases h with h | h | h | h
  ·have hk := zFa h
   refine ⟨zBB h (by decide), zBB h (by decide), zBB h (by decide), ?_, ?_, ?_⟩ <;> (rcases hk with hk | hk <;> rw [hk] <;> decide)
  ·have hk := zFa h
   refine ⟨zBB h (by decide), zBB h (by decide), zBB h (by decide), ?_, ?_, ?_⟩ <;> (rcases hk with hk | hk <;> rw [hk] <;> decide)
  ·have hk := zFa h
   refine ⟨zBB h (by decide), zBB h (by decide), zBB h (by decide), ?_, ?_, ?_⟩ <;> (rcases hk with hk | hk <;> rw [hk] <;> decide)
  ·have hn : ∀ t : Tok, t.k = 2 -> zAc l s t = false := fun t ht => by
    cases hs : zAc l s t with
    | false => rfl
    | true =>
     rcases zFa hs with hk | hk <;> rw [hk] at h
     ·rw [ht] at h; exact absurd h (by decide)
     ·exact absurd h (by decide)
   refine ⟨hn _ rfl, hn _ rfl, hn _ rfl, ?_, ?_, ?_⟩ <;> rw [h] <;> decide
 obtain ⟨k1, k2, k3, k4, k5, k6⟩ := key
 unfold zEh
 rw [hm, k1, k2, k3, if_neg Bool.noConfusion, if_neg Bool.noConfusion, if_neg Bool.noConfusion, if_neg Bool.noConfusion, if_neg k4, if_neg k5, if_neg k6]
theorem zNl {l : List Tok} {s : Spot} {c0 : Spot -> Ex × Spot} (hm : zAc l s zGx = false) (h : zOI l s = false) : zEh l s = ((zA3 l c0 s).1.val, (zA3 l c0 s).2) := by
 unfold zOI at h
 simp only [Bool.or_eq_false_iff, decide_eq_false_iff_not] at h
 obtain ⟨h1, h2, h3, h4⟩ := h
 unfold zEh zA3
 rw [hm, h1, h2, h3, if_neg Bool.noConfusion, if_neg h4]
 simp only [ifB]
 repeat' split
 all_goals rfl
theorem bZ : ∀ e a b c k : Bool, (bif (bif (bif (bif e then !a else false) then !b else false) then !c else false) then !k else false) = (e && !(a || (b || (c || k)))) := by decide
theorem zV6 {l : List Tok} {s : Spot} (h : s.e ≠ 0) : zEh l s = (zBD, zBQ l s) := by
 unfold zEh
 simp only [zAV h, zFb h, ifB]
 rfl
theorem zXo (l : List Tok) (ho : zAW l) (s : Spot) : FnG Tryz.prog 27 (gDc) [.agg (.es (eSp l s))] (.tup [(true, .es (zBw (zEh l s).1)), (true, .es (eSp l (zEh l s).2))]) := by
 refine zG 55 Tryz.func27 fun X hnt => ?_
 have h0 : ((eSp l s).getD (0 + 2) E.dflt).int = s.e := rfl
 have h1 : ((eSp l s).getD (0 + 0) E.dflt).xs.length = l.length := List.length_map ..
 have h2 : ((eSp l s).getD (0 + 1) E.dflt).int = (s.p : Int) := rfl
 have hsM := zAT l s [45] zGx [] (tk1 zFg (by decide))
 have hsL := zAT l s [40] zBf [] (tk1 zCb (by decide))
 have hsLn := zAT l s [76, 69, 78, 71, 84, 72] zDz [] (tk1 zVr (by decide))
 have hsCo := zAT l s [67, 79, 65, 76, 69, 83, 67, 69] zDa [] (tk1 zVt (by decide))
 have hk := zIx l ho s
 repeat' first | refine zx ?_ | apply zn
 cases hs : zAc l s zGx with
 | true =>
  rw [hs] at hsM
  have hps := zWH l ho.1 s
  unfold Pst at hps
  rw [zA6 hs] at hps
  have h1 := zOE l ho ⟨s.p + 1, s.e⟩ 3 (by decide)
  have hl : zEh l s = (⟨2, zSB (zBl l ⟨s.p + 1, s.e⟩ 3).1.i, 0, []⟩, (zBl l ⟨s.p + 1, s.e⟩ 3).2) := by
   unfold zEh
   rw [if_pos hs]
  rw [hl]
  generalize zBl l ⟨s.p + 1, s.e⟩ 3 = A at h1 ⊢
  obtain ⟨t1, s1⟩ := A
  dsimp only at h1 ⊢
  refine zV hsM ?_
  refine zc (fun hc => ?_) fun hc => ?_
  ·repeat' apply zn
   refine zAa (zzx hnt rfl ?_ (callV rfl rfl rfl rfl rfl rfl rfl hnt rfl (hps) (zzx hnt rfl ?_ (callV rfl rfl rfl rfl rfl rfl rfl hnt rfl (h1) (zzx hnt rfl ?_ (Lex.nil _)))))) ?_
   ·exact zzt
   ·exact zzt
   ·exact zzt
   refine zxa ?_
   exact zAb ⟨.inr rfl, _, _, rfl, zzp, rfl⟩
  exact absurd hc Bool.noConfusion
 | false =>
  rw [hs] at hsM
  refine zV hsM ?_
  refine zc (fun hc => ?_) fun hc => ?_
  ·exact absurd hc Bool.noConfusion
  repeat' apply zn
  refine zAa (zzx hnt rfl ?_ (callVG rfl rfl rfl rfl rfl rfl hnt rfl (fun hq => ?_) rfl (fun hq => hsL) (zzx hnt rfl ?_ (callVG rfl rfl rfl rfl rfl rfl hnt rfl (fun hq => ?_) rfl (fun hq => hsLn) (zzx hnt rfl ?_ (callVG rfl rfl rfl rfl rfl rfl hnt rfl (fun hq => ?_) rfl (fun hq => hsCo) (zzx hnt rfl ?_ (callVG rfl rfl rfl rfl rfl rfl hnt rfl (fun hq => ?_) rfl (fun hq => hk) (zzx hnt rfl ?_ (Lex.nil _)))))))))) ?_
  ·exact zza
  ·exact zza
  ·exact zza
  ·exact zza
  ·exact zza
  ·exact zza
  ·exact zza
  ·exact zza
  ·exact zza
  refine zc (fun hc => ?_) fun hc => ?_
  ·have hc := (bZ (decide (s.e = 0)) (zAc l s zBf) (zAc l s zDz) (zAc l s zDa) (decide (zAU l s = 1))).symm.trans hc
   rw [Bool.and_eq_true, Bool.not_eq_true'] at hc
   obtain ⟨_, q2⟩ := hc
   have q2 : zOI l s = false := q2
   rw [zNl (c0 := xpF l) hs q2]
   have hg := zJY l ho s (xpF l) (zJf l) (fun _ s' _ hp => xpD l ho s' hp)
   unfold zIo at hg
   generalize zA3 l (xpF l) s = A at hg ⊢
   obtain ⟨⟨o, v, n, r⟩, s2⟩ := A
   dsimp only at hg ⊢
   rw [zBZ] at hg
   refine zV hg ?_
   repeat' first | refine zx ?_ | apply zn
   exact zAb ⟨.inr rfl, _, _, rfl, zzp, rfl⟩
  have hc := (bZ (decide (s.e = 0)) (zAc l s zBf) (zAc l s zDz) (zAc l s zDa) (decide (zAU l s = 1))).symm.trans hc
  have hl : zEh l s = (zBD, zBQ l s) := by
   by_cases he : s.e = 0
   ·refine zSD hs ?_
    rw [decide_eq_true he, Bool.true_and, Bool.not_eq_false'] at hc
    exact hc
   ·exact zV6 he
  rw [hl]
  have hb := zKq l s
  refine zC hb ?_
  exact zAb ⟨.inr rfl, _, _, rfl, zzp, rfl⟩
theorem zW8 (l : List Tok) (ho : zAW l) (s : Spot) (c : Cmd) (hz : Szs c 300) : FnH Tryz.prog 26 (gDc) (mdP c 0) [.agg (.es (eSp l s)), .one (.ptr 900006 0 0)] (.agg (.es (eSp l (zIb l c s).2))) (mdP (zIb l c s).1 0) := by
 refine zFH 21 Tryz.func26 fun X hnt => ?_
 have hz2 : (c.ro.map zBw).length <= 300 := Nat.le_trans (Nat.le_of_eq (List.length_map ..)) hz.ro
 unfold zIb
 have h1 := zXo l ho s
 generalize zEh l s = A at h1 ⊢
 obtain ⟨v, s1⟩ := A
 dsimp only at h1 ⊢
 repeat' first | refine zx ?_ | fail
 refine zV h1 ?_
 refine zy ?_ ?_
 ·exact zzh
 repeat' first | refine zx ?_ | apply zn
 exact zAb ⟨.inr rfl, _, _, _, rfl, zzp, rfl, fun X => zAh (ad := []) zzi (zAg rfl rfl zzi (zAe rfl rfl rfl (zAe rfl rfl (zFO zBw c.ro v) zm)))⟩
theorem zTJ (l : List Tok) (ho : zAW l) : zTv l 26 0 (zIb l) := fun s c hp hz => zW8 l ho s c hz
theorem zOB (l : List Tok) (s : Spot) : ∀ (ws : List Byt) (i : Int), s.p <= (ooF l s i ws).2.p /\ (s.p <= l.length -> (ooF l s i ws).2.p <= l.length)
 | [], i => by
  rw [ooF]
  show s.p <= (zBQ l s).p /\ (s.p <= l.length -> (zBQ l s).p <= l.length)
  rw [zKp]
  exact ⟨Nat.le_refl _, fun h => h⟩
 | w :: r, i => by
  rw [ooF]
  by_cases h : w ≠ [] /\ zAc l s (wdT w) = true
  ·rw [if_pos h]
   exact zAH h.2
  ·rw [if_neg h]
   exact zOB l s r _
theorem zKg (l : List Tok) : Fw l (zG8 l) := fun c s => by
 unfold zG8
 have h1 := zBS l s zFp
 have h2 := zOB l (zBl l s 1).2 kdW 0
 dsimp only
 split
 ·have h3 := zAo l [zIe, zB8] (ooF l (zBl l s 1).2 0 kdW).2
  exact zAu (zAu h1 h2) h3
 ·exact zAu h1 h2
theorem zPl (l : List Tok) : SzD (zG8 l) := fun c s n h => by
 unfold zG8
 exact ⟨by simpa using h.cs, Nat.le_succ_of_le h.ro, Nat.le_succ_of_le h.ss, Nat.le_succ_of_le h.is, Nat.le_succ_of_le h.so⟩
def zEw : Tok := wdT [84, 65, 66, 76, 69]
theorem zWS : Fld [84, 65, 66, 76, 69] [[84, 65, 66, 76, 69]] := zzF
def zWs (l : List Tok) (c : Cmd) (s : Spot) : Cmd × Spot :=
 ((zBk l (zG8 l) (l.length + 1) { c with tb := (zBl l (zAk l s [zEw]) 1).1.t } (zAk l (zBl l (zAk l s [zEw]) 1).2 [zBf])).1,
  zAk l (zBk l (zG8 l) (l.length + 1) { c with tb := (zBl l (zAk l s [zEw]) 1).1.t } (zAk l (zBl l (zAk l s [zEw]) 1).2 [zBf])).2 [zB7])
theorem zQ1 (l : List Tok) (ho : zAW l) (hL : l.length <= 100) (s : Spot) (c : Cmd) (hp : s.p <= l.length) (hz : Szs c 150) : FnH Tryz.prog 22 (gDc) (mdC c) [.agg (.es (eSp l s)), ptS] (.agg (.es (eSp l (zWs l c s).2))) (mdC (zWs l c s).1) := by
 refine zFH 22 Tryz.func22 fun X hnt => ?_
 unfold zWs
 have hw := (zBe ho.1 zWS rfl (by decide)).ps s
 unfold Pst at hw
 have hf1 := (zAo l [zEw] s).2 hp
 have hw : FnG Tryz.prog 23 [(3, spE)] [.agg (.es (eSp l s)), .one (.e (eT [84, 65, 66, 76, 69]))] (.agg (.es (eSp l (zAk l s [zEw])))) := hw
 generalize zAk l s [zEw] = s1 at hw hf1 ⊢
 have h1 := zOE l ho s1 1 (by decide)
 have hf2 := (zBS l s1 zFp).2 hf1
 generalize zBl l s1 1 = A at h1 hf2 ⊢
 obtain ⟨t1, s2⟩ := A
 have h2 := zWI l ho.1 s2
 unfold Pst at h2
 have hf3 := (zAo l [zBf] s2).2 hf2
 dsimp only at h1 h2 hf3 ⊢
 generalize zAk l s2 [zBf] = s3 at h2 hf3 ⊢
 have h3 := zOQ l ho hL s3 { c with tb := t1.t } 66 0 rfl (zG8 l) (zU4 l ho) (zKg l) (zPl l) hf3 ⟨hz.cs, hz.ro, hz.ss, hz.is, hz.so⟩
 generalize zBk l (zG8 l) (l.length + 1) { c with tb := t1.t } s3 = A at h3 ⊢
 obtain ⟨c2, s4⟩ := A
 have h4 := zRC l ho.1 s4
 unfold Pst at h4
 dsimp only at h3 h4 ⊢
 repeat' first | refine zx ?_ | apply zn
 repeat' apply zn
 refine zAa (zzx hnt rfl ?_ (callV rfl rfl rfl rfl rfl rfl rfl hnt rfl (hw) (zzx hnt rfl ?_ (callV rfl rfl rfl rfl rfl rfl rfl hnt rfl (h1) (zzx hnt rfl ?_ (Lex.nil _)))))) ?_
 ·exact zzt
 ·exact zzt
 ·exact zzt
 refine zxa ?_
 repeat' apply zn
 refine zAa (zzx hnt rfl ?_ (callV rfl rfl rfl rfl rfl rfl rfl hnt rfl (h2) (zzx hnt rfl ?_ (zA9 (us := []) [(900000, 900000), (900006, 3)] kr kr rfl rfl rfl rfl (h3) zg (fun _ => rfl) rfl rfl hnt rfl rfl zzi zzi (zzx hnt rfl ?_ (callV rfl rfl rfl rfl rfl rfl rfl hnt rfl (h4) (zzx hnt rfl ?_ (Lex.nil _)))))))) ?_
 ·exact zzt
 ·exact zzt
 ·exact zzt
 ·exact zzt
 exact zAb ⟨.inr rfl, _, _, _, rfl, zzp, rfl, fun X => zle⟩
theorem fr1 : Fld [82, 69, 65, 68] [[82, 69, 65, 68]] := zzF
theorem fr2 : Fld [87, 82, 73, 84, 69] [[87, 82, 73, 84, 69]] := zzF
theorem zVJ (l : List Tok) (hm : l.length <= maxLen) : ∀ w ∈ rwW, w ≠ [] -> Wrd l w := fun w hw hn => by
 unfold rwW at hw
 simp only [List.mem_cons, List.not_mem_nil, or_false] at hw
 rcases hw with rfl | rfl | rfl
 ·exact absurd rfl hn
 ·exact zBe hm fr1 rfl (by decide)
 ·exact zBe hm fr2 rfl (by decide)
theorem zO3 (l : List Tok) (ho : zAW l) (s : Spot) (c : Cmd) (w : Byt) (hw : Wrd l w) : FnH Tryz.prog 33 (gDc) (mdC c) [.agg (.es (eSp l s)), ptS, .one (.e (eT w))] (.agg (.es (eSp l (zID l c s (wdT w)).2))) (mdC (zID l c s (wdT w)).1) := by
 refine zFH 33 Tryz.func33 fun X hnt => ?_
 unfold zID zIl
 have h1 := zOD l ho s rwW (by decide) (zVJ l ho.1)
 generalize ooF l s 0 rwW = A at h1 ⊢
 obtain ⟨k, s1⟩ := A
 have h2 := (zBe ho.1 zWU rfl (by decide)).ps s1
 unfold Pst at h2
 have h2 : FnG Tryz.prog 23 [(3, spE)] [.agg (.es (eSp l s1)), .one (.e (eT [79, 78]))] (.agg (.es (eSp l (zAk l s1 [zKA])))) := h2
 dsimp only at h1 h2 ⊢
 generalize zAk l s1 [zKA] = s2 at h2 ⊢
 have h3 := zIZ l ho s2 { c with rt := k }
 generalize zHw l { c with rt := k } s2 = A at h3 ⊢
 obtain ⟨c2, s3⟩ := A
 have h4 := hw.ps s3
 unfold Pst at h4
 dsimp only at h3 h4 ⊢
 generalize zAk l s3 [wdT w] = s4 at h4 ⊢
 have h5 := zOE l ho s4 3 (by decide)
 generalize zBl l s4 3 = A at h5 ⊢
 obtain ⟨t, s5⟩ := A
 dsimp only at h5 ⊢
 repeat' first | refine zx ?_ | fail
 refine zVD h1 ?_
 repeat' apply zn
 refine zAa (zzx hnt rfl ?_ (callV rfl rfl rfl rfl rfl rfl rfl hnt rfl (h2) (zzx hnt rfl ?_ (zA9 (us := []) [(900000, 900000)] kr kr rfl rfl rfl rfl (h3) zg (fun _ => rfl) rfl rfl hnt rfl rfl zzi zzi (zzx hnt rfl ?_ (callV rfl rfl rfl rfl rfl rfl rfl hnt rfl (h4) (zzx hnt rfl ?_ (callV rfl rfl rfl rfl rfl rfl rfl hnt rfl (h5) (zzx hnt rfl ?_ (Lex.nil _)))))))))) ?_
 ·exact zzt
 ·exact zzt
 ·exact zzt
 ·exact zzt
 ·exact zzt
 repeat' first | refine zx ?_ | apply zn
 exact zAb ⟨.inr rfl, _, _, _, rfl, zzp, rfl, fun X => zle⟩
theorem zrt {X : Ctx} {nt id : Nat} {ops : Array Oper} {tm tm' : Nat -> D} {m m' : Mem} {ps : List Prop} {Q : Exit -> St -> Prop} (k : Q .normal ⟨tm', m'⟩) (hnt : X.nt = nt := by assumption) (h : zGb tab nt ops ops.toList [] tm m = some ⟨ps, tm', m', []⟩ := by exact rfl) (hp : zBh ps := by exact zzt) : Tr Tryz.prog X (.region id ops false) ⟨tm, m⟩ Q := zzr hnt h hp k
theorem zUw {l : List Tok} {s : Spot} (hm : zAc l s zGx = false) (h : zAc l s zB8 = true) : zEh l s = (zBD, ⟨s.p + 1, s.e⟩) := by
 unfold zEh
 rw [hm, if_neg Bool.noConfusion, if_pos h]
theorem zV5 {l : List Tok} {s : Spot} (hm : zAc l s zGx = false) (h : zAc l s zLL = true) : zEh l s = (⟨1, 0, 0, []⟩, ⟨s.p + 1, s.e⟩) := by
 unfold zEh
 rw [hm, if_neg Bool.noConfusion, zBB h (by decide), if_neg Bool.noConfusion, zBB h (by decide), if_neg Bool.noConfusion, if_pos h]
theorem zV4 {l : List Tok} {s : Spot} (hm : zAc l s zGx = false) (h : zAc l s zLK = true) : zEh l s = (⟨1, 1, 0, []⟩, ⟨s.p + 1, s.e⟩) := by
 unfold zEh
 rw [hm, if_neg Bool.noConfusion, zBB h (by decide), if_neg Bool.noConfusion, if_pos h]
theorem zUx {l : List Tok} {s : Spot} (hm : zAc l s zGx = false) (h1 : zAc l s zB8 = false) (h2 : zAc l s zLL = false) (h3 : zAc l s zLK = false) : zEh l s =
 if zAU l s = 3 then (⟨2, (l.getD s.p zBj).i, 0, []⟩, ⟨s.p + 1, s.e⟩) else
 if zAU l s = 5 then (⟨3, 0, (l.getD s.p zBj).b, []⟩, ⟨s.p + 1, s.e⟩) else
 if zAU l s = 4 then (⟨4, 0, 0, (l.getD s.p zBj).t⟩, ⟨s.p + 1, s.e⟩) else (zBD, zBQ l s) := by
 unfold zEh
 rw [hm, h1, h2, h3, if_neg Bool.noConfusion, if_neg Bool.noConfusion, if_neg Bool.noConfusion, if_neg Bool.noConfusion]
def zWE (k : Int) (t : Tok) : Val := if k = 5 then ⟨3, 0, t.b, []⟩ else if k = 4 then ⟨4, 0, 0, t.t⟩ else ⟨2, t.i, 0, []⟩
def zSF (l : List Tok) (p : Nat) (k : Int) : Val × Spot := if zAU l ⟨p, 0⟩ = k then (zWE k (l.getD p zBj), ⟨p + 1, 0⟩) else (zBD, zBQ l ⟨p, 0⟩)
theorem zSE {l : List Tok} {p : Nat} (hm : zAc l ⟨p, 0⟩ zGx = false) (h1 : zAc l ⟨p, 0⟩ zB8 = false) (h2 : zAc l ⟨p, 0⟩ zLL = false) (h3 : zAc l ⟨p, 0⟩ zLK = false) (hlt : p < l.length) (hq : (l.getD p zBj).k = 5 \/ (l.getD p zBj).k = 4) : zEh l ⟨p, 0⟩ = zSF l p (l.getD p zBj).k := by
 rw [zUx hm h1 h2 h3]
 unfold zSF
 have k3 : zAU l ⟨p, 0⟩ ≠ 3 := fun h => by
  have := (zFB hlt (by decide)).1 h
  omega
 rw [if_neg k3]
 rcases hq with hq | hq
 ·rw [hq]
  by_cases h : zAU l ⟨p, 0⟩ = 5
  ·rw [if_pos h, if_pos h]
   rfl
  ·have k4 : zAU l ⟨p, 0⟩ ≠ 4 := fun h => by
    have := (zFB hlt (by decide)).1 h
    omega
   rw [if_neg h, if_neg k4, if_neg h]
 ·rw [hq]
  have k5 : zAU l ⟨p, 0⟩ ≠ 5 := fun h => by
   have := (zFB hlt (by decide)).1 h
   omega
  rw [if_neg k5]
  rfl
theorem zRN {l : List Tok} {p : Nat} (hm : zAc l ⟨p, 0⟩ zGx = false) (h1 : zAc l ⟨p, 0⟩ zB8 = false) (h2 : zAc l ⟨p, 0⟩ zLL = false) (h3 : zAc l ⟨p, 0⟩ zLK = false) (hq : ¬ (p < l.length /\ ((l.getD p zBj).k = 5 \/ (l.getD p zBj).k = 4))) : zEh l ⟨p, 0⟩ = zSF l p 3 := by
 rw [zUx hm h1 h2 h3]
 unfold zSF
 have key : ∀ k : Int, k = 5 \/ k = 4 -> zAU l ⟨p, 0⟩ ≠ k := fun k hk h => by
  by_cases hlt : p < l.length
  ·have := (zFB hlt (by omega)).1 h
   exact hq ⟨hlt, by omega⟩
  ·rw [zMj hlt] at h
   omega
 rw [if_neg (key 5 (.inl rfl)), if_neg (key 4 (.inr rfl))]
 rfl
def msV (l : List Tok) (p : Nat) (c : Cmd) (t : Tok) : List (Nat × Blk) := [(900000, ⟨0, .box (.ds (bxC l p c)), 0⟩), (900001, ⟨0, .row 3 (c.cs.map zCm), 0⟩), (900002, ⟨0, .row 4 (c.ro.map zBw), 0⟩), (900003, ⟨0, .row 8 (c.ss.map zCe), 0⟩), (900004, ⟨0, .row 8 (c.q.is.map zBP), 0⟩), (900005, ⟨0, .row 2 (c.q.ss.map zC3), 0⟩), (6, ⟨0, .box (.es (zBO t)), 0⟩)]
theorem zTH (l : List Tok) (ho : zAW l) (hL : l.length <= 100) (p : Nat) (c : Cmd) (hp : p <= l.length) (hz : Szs c p) : zEU Tryz.prog [(900000, 31)] 51 (gY) (msC l p c) [ptS] ((zIb l c ⟨p, 0⟩).2.e = 0) (.tup []) (msC l (zIb l c ⟨p, 0⟩).2.p (zIb l c ⟨p, 0⟩).1) (chT (zIb l c ⟨p, 0⟩).2) := by
 refine zFX 149 Tryz.func51 fun X hnt => ?_
 unfold zIb
 have hz2 : (c.ro.map zBw).length <= 100 := Nat.le_trans (Nat.le_of_eq (List.length_map ..)) <| Nat.le_trans hz.ro (Nat.le_trans hp hL)
 have hk := fun u => zCg l ho.1 p u 6 [45]
 refine zQ 900000 mk2 hk ?_
 clear hk
 cases hs : zAc l ⟨p, 0⟩ ⟨6, [45], 0, 0⟩ with
 | true =>
  unfold zEh
  rw [if_pos (show zAc l ⟨p, 0⟩ zGx = true from hs)]
  refine zc (fun hc => ?_) fun hc => ?_
  ·refine zAq (s' := St.of [(0, .one (.ptr 900000 0 0)), (900000, .one (.ptr 900000 0 0)) , (1000003, .one (.eptr spE)), (1000005, .one (.eptr fsE)), (1000006, .one (.eptr acE))] (msC l (p + 1) c)) zle ?_
   have h1 := zNf l ho (p + 1) 3 (by decide)
   dsimp only
   generalize zBl l ⟨(p + 1), 0⟩ 3 = A at h1 ⊢
   obtain ⟨t1, p1, e1⟩ := A
   dsimp only at h1 ⊢
   by_cases he : e1 = 0
   rotate_left
   ·repeat' apply zn
    refine zC6 (T := tab) tOk hnt zAO [0, 1, 2, 3, 4, 6, 7, 8] 5 9 (zA2 (T := tab) rfl ?_ (.nil _)) (zA2 (T := tab) rfl ?_ (.nil _)) rfl (zA8 900000 mk2 [] rfl rfl rfl (fun u => (h1 u).2 he) rfl rfl (fun _ => rfl) rfl (fun _ _ _ => zg) rfl rfl rfl (fun s' ht hm x => ?_)) (zA8 900000 mk2 [] rfl rfl rfl (fun u => (h1 u).2 he) rfl rfl (fun _ => rfl) rfl (fun _ _ _ => zg) rfl rfl rfl (fun s' ht hm x => ?_)) (by decide +kernel) (by decide +kernel)
    ·exact zzt
    ·exact zzt
    ·exact ⟨fun hh => absurd hh he, fun _ => ⟨rfl, zAv (ht 900000 (by decide)).symm rfl rfl⟩⟩
    ·exact ⟨fun hh => absurd hh he, fun _ => ⟨rfl, zAv (ht 900000 (by decide)).symm rfl rfl⟩⟩
   subst he
   repeat' apply zn
   refine zLF (T := tab) tOk hnt zAO [0, 1, 2, 3, 4, 6, 7, 8] 5 9 [10, 11, 12, 13, 14, 15, 16, 17, 18] (zA2 (T := tab) rfl ?_ (.nil _)) (zA2 (T := tab) rfl ?_ (zDM 900000 mk2 rfl rfl rfl (fun u => (h1 u).1 rfl) rfl rfl (fun _ => rfl) (fun _ => rfl) rfl (fun _ _ _ => zg) rfl rfl rfl rfl (fun _ => rfl) (zA2 (T := tab) rfl ?_ (.nil _)))) (zDM 900000 mk2 rfl rfl rfl (fun u => (h1 u).1 rfl) rfl rfl (fun _ => rfl) (fun _ => rfl) rfl (fun _ _ _ => zg) rfl rfl rfl rfl (fun _ => rfl) (zA2 (T := tab) rfl ?_ (.nil _))) (by decide +kernel) (by decide +kernel) ?_ ?_
   ·exact zzt
   ·exact zzt
   ·exact zzh
   ·exact zzh
   ·repeat' apply zn
    refine zAb ?_
    exact ⟨fun _ => ⟨.inr rfl, _, _, _, rfl, zzp, rfl, fun X => zAh (ad := []) zzi (zAg rfl rfl zzi (zAe rfl rfl rfl (zAe rfl rfl (zFO zBw c.ro (⟨2, zSB t1.i, 0, []⟩)) zm)))⟩, fun hh => absurd rfl hh⟩
   ·repeat' apply zn
    refine zAb ?_
    exact ⟨fun _ => ⟨.inr rfl, _, _, _, rfl, zzp, rfl, fun X => zAh (ad := []) zzi (zAg rfl rfl zzi (zAe rfl rfl rfl (zAe rfl rfl (zFO zBw c.ro (⟨2, zSB t1.i, 0, []⟩)) zm)))⟩, fun hh => absurd rfl hh⟩
  exact absurd hc Bool.noConfusion
 | false =>
  refine zc (fun hc => ?_) fun hc => ?_
  ·exact absurd hc Bool.noConfusion
  refine zAq (s' := St.of [(0, .one (.ptr 900000 0 0)), (900000, .one (.ptr 900000 0 0)) , (1000003, .one (.eptr spE)), (1000005, .one (.eptr fsE)), (1000006, .one (.eptr acE))] (msC l p c)) zle ?_
  repeat' first | refine zx ?_ | apply zn
  refine zGu 4 (zBX ?_)
  repeat' (first | apply zn | refine zBX ?_ | refine zrt ?_ | refine zAj rfl (fun hc => ?_) (fun hc => absurd (show true = false from hc) Bool.noConfusion) | refine zAj rfl (fun hc => absurd (show false = true from hc) Bool.noConfusion) (fun hc => ?_) | refine zAj rfl (fun hc => ?_) (fun hc => absurd hc (by decide +kernel)) | refine zAj rfl (fun hc => absurd hc (by decide +kernel)) (fun hc => ?_))
  have hk := fun u => zCg l ho.1 p u 2 [78, 85, 76, 76]
  refine zQ 900000 mk2 hk ?_
  clear hk
  cases hs1 : zAc l ⟨p, 0⟩ ⟨2, [78, 85, 76, 76], 0, 0⟩ with
  | true =>
   rw [zUw hs hs1]
   refine zc (fun hc => ?_) fun hc => ?_
   ·repeat' (first | apply zn | refine zBX ?_ | refine zrt ?_ | refine zAj rfl (fun hc => ?_) (fun hc => absurd (show true = false from hc) Bool.noConfusion) | refine zAj rfl (fun hc => absurd (show false = true from hc) Bool.noConfusion) (fun hc => ?_) | refine zAj rfl (fun hc => ?_) (fun hc => absurd hc (by decide +kernel)) | refine zAj rfl (fun hc => absurd hc (by decide +kernel)) (fun hc => ?_))
    refine zy ?_ ?_
    ·exact zzh
    repeat' apply zn
    refine zAb ?_
    exact ⟨fun _ => ⟨.inr rfl, _, _, _, rfl, zzp, rfl, fun X => zAh (ad := []) zzi (zAg rfl rfl zzi (zAe rfl rfl rfl (zAe rfl rfl (zFO zBw c.ro zBD) zm)))⟩, fun hh => absurd rfl hh⟩
   exact absurd hc Bool.noConfusion
  | false =>
  refine zc (fun hc => ?_) fun hc => ?_
  ·exact absurd hc Bool.noConfusion
  repeat' (first | apply zn | refine zBX ?_ | refine zrt ?_ | refine zAj rfl (fun hc => ?_) (fun hc => absurd (show true = false from hc) Bool.noConfusion) | refine zAj rfl (fun hc => absurd (show false = true from hc) Bool.noConfusion) (fun hc => ?_) | refine zAj rfl (fun hc => ?_) (fun hc => absurd hc (by decide +kernel)) | refine zAj rfl (fun hc => absurd hc (by decide +kernel)) (fun hc => ?_))
  have hk := fun u => zCg l ho.1 p u 2 [70, 65, 76, 83, 69]
  refine zQ 900000 mk2 hk ?_
  clear hk
  cases hs2 : zAc l ⟨p, 0⟩ ⟨2, [70, 65, 76, 83, 69], 0, 0⟩ with
  | true =>
   rw [zV5 hs hs2]
   refine zc (fun hc => ?_) fun hc => ?_
   ·repeat' (first | apply zn | refine zBX ?_ | refine zrt ?_ | refine zAj rfl (fun hc => ?_) (fun hc => absurd (show true = false from hc) Bool.noConfusion) | refine zAj rfl (fun hc => absurd (show false = true from hc) Bool.noConfusion) (fun hc => ?_) | refine zAj rfl (fun hc => ?_) (fun hc => absurd hc (by decide +kernel)) | refine zAj rfl (fun hc => absurd hc (by decide +kernel)) (fun hc => ?_))
    refine zy ?_ ?_
    ·exact zzh
    repeat' apply zn
    refine zAb ?_
    exact ⟨fun _ => ⟨.inr rfl, _, _, _, rfl, zzp, rfl, fun X => zAh (ad := []) zzi (zAg rfl rfl zzi (zAe rfl rfl rfl (zAe rfl rfl (zFO zBw c.ro (⟨1, 0, 0, []⟩)) zm)))⟩, fun hh => absurd rfl hh⟩
   exact absurd hc Bool.noConfusion
  | false =>
  refine zc (fun hc => ?_) fun hc => ?_
  ·exact absurd hc Bool.noConfusion
  repeat' (first | apply zn | refine zBX ?_ | refine zrt ?_ | refine zAj rfl (fun hc => ?_) (fun hc => absurd (show true = false from hc) Bool.noConfusion) | refine zAj rfl (fun hc => absurd (show false = true from hc) Bool.noConfusion) (fun hc => ?_) | refine zAj rfl (fun hc => ?_) (fun hc => absurd hc (by decide +kernel)) | refine zAj rfl (fun hc => absurd hc (by decide +kernel)) (fun hc => ?_))
  have hk := fun u => zCg l ho.1 p u 2 [84, 82, 85, 69]
  refine zQ 900000 mk2 hk ?_
  clear hk
  cases hs3 : zAc l ⟨p, 0⟩ ⟨2, [84, 82, 85, 69], 0, 0⟩ with
  | true =>
   rw [zV4 hs hs3]
   refine zc (fun hc => ?_) fun hc => ?_
   ·repeat' (first | apply zn | refine zBX ?_ | refine zrt ?_ | refine zAj rfl (fun hc => ?_) (fun hc => absurd (show true = false from hc) Bool.noConfusion) | refine zAj rfl (fun hc => absurd (show false = true from hc) Bool.noConfusion) (fun hc => ?_) | refine zAj rfl (fun hc => ?_) (fun hc => absurd hc (by decide +kernel)) | refine zAj rfl (fun hc => absurd hc (by decide +kernel)) (fun hc => ?_))
    refine zy ?_ ?_
    ·exact zzh
    repeat' apply zn
    refine zAb ?_
    exact ⟨fun _ => ⟨.inr rfl, _, _, _, rfl, zzp, rfl, fun X => zAh (ad := []) zzi (zAg rfl rfl zzi (zAe rfl rfl rfl (zAe rfl rfl (zFO zBw c.ro (⟨1, 1, 0, []⟩)) zm)))⟩, fun hh => absurd rfl hh⟩
   exact absurd hc Bool.noConfusion
  | false =>
  refine zc (fun hc => ?_) fun hc => ?_
  ·exact absurd hc Bool.noConfusion
  repeat' (first | apply zn | refine zBX ?_ | refine zrt ?_ | refine zAj rfl (fun hc => ?_) (fun hc => absurd (show true = false from hc) Bool.noConfusion) | refine zAj rfl (fun hc => absurd (show false = true from hc) Bool.noConfusion) (fun hc => ?_) | refine zAj rfl (fun hc => ?_) (fun hc => absurd hc (by decide +kernel)) | refine zAj rfl (fun hc => absurd hc (by decide +kernel)) (fun hc => ?_))
  refine zAt ?_
  repeat' apply zn
  refine zAq (s' := St.of [(0, .one (.ptr 900000 0 0)), (900000, .one (.ptr 900000 0 0)) , (1000003, .one (.eptr spE)), (1000005, .one (.eptr fsE)), (1000006, .one (.eptr acE))] (msC l p c)) zle ?_
  have h1 : (zFU l).xs.length = l.length := List.length_map ..
  have h2 : (eI (p : Int)).int = (p : Int) := rfl
  have hg : p < l.length -> (zFU l).xs.getD (eI (p : Int)).int.toNat [] = zBO (l.getD p zBj) := fun h => zDQ l h
  repeat' first | refine zy ?_ ?_ | apply zn
  ·exact zzt
  ·(dsimp only [zBh]; (repeat' first | exact trivial | assumption | exact Nat.le_of_ble_eq_true rfl | apply And.intro | exact zAm _ _ ‹_› | exact zAi _ _ ‹_› | (intro hh_; have hg_ := hh_; (try simp only [zAr, zAs, zBm, zBp, Bool.and_eq_true, ne_eq, decide_eq_true_eq, decide_eq_false_iff_not] at hg_)) | intro _ | exact rfl | omega))
   all_goals (rw [hg (by omega)]; first | exact rfl | exact Nat.le_of_ble_eq_true rfl)
  first | refine zBy (σ := Int) (fun k => St.of [(0, .one (.ptr 900000 0 0)), (5, .one (.e (eI k))), (900000, .one (.ptr 900000 0 0)), (1000003, .one (.eptr spE)), (1000005, .one (.eptr fsE)), (1000006, .one (.eptr acE))] [(900000, ⟨0, .box (.ds (bxC l p c)), 0⟩), (900001, ⟨0, .row 3 (c.cs.map zCm), 0⟩), (900002, ⟨0, .row 4 (c.ro.map zBw), 0⟩), (900003, ⟨0, .row 8 (c.ss.map zCe), 0⟩), (900004, ⟨0, .row 8 (c.q.is.map zBP), 0⟩), (900005, ⟨0, .row 2 (c.q.ss.map zC3), 0⟩)]) (fun k => zEh l ⟨p, 0⟩ = zSF l p k /\ (k = 3 \/ k = 5 \/ k = 4)) ?_ ?_ | refine zDI (zBy (σ := Int) (fun k => St.of [(0, .one (.ptr 900000 0 0)), (5, .one (.e (eI k))), (900000, .one (.ptr 900000 0 0)), (1000003, .one (.eptr spE)), (1000005, .one (.eptr fsE)), (1000006, .one (.eptr acE))] [(900000, ⟨0, .box (.ds (bxC l p c)), 0⟩), (900001, ⟨0, .row 3 (c.cs.map zCm), 0⟩), (900002, ⟨0, .row 4 (c.ro.map zBw), 0⟩), (900003, ⟨0, .row 8 (c.ss.map zCe), 0⟩), (900004, ⟨0, .row 8 (c.q.is.map zBP), 0⟩), (900005, ⟨0, .row 2 (c.q.ss.map zC3), 0⟩)]) (fun k => zEh l ⟨p, 0⟩ = zSF l p k /\ (k = 3 \/ k = 5 \/ k = 4)) ?_ ?_)
  ·by_cases hlt : p < l.length
   ·have e1 : decide ((eI (p : Int)).int < ((zFU l).xs.length : Int)) = true := decide_eq_true (by rw [h1, h2]; omega)
    rw [e1, hg hlt]
    refine zc (fun hc => ?_) fun hc => ?_
    ·have hc : (bif decide ((l.getD p zBj).k = 5) then true else decide ((l.getD p zBj).k = 4)) = true := hc
     have hq : (l.getD p zBj).k = 5 \/ (l.getD p zBj).k = 4 := by simpa using hc
     repeat' first | refine zy ?_ ?_ | apply zn
     ·(dsimp only [zBh]; (repeat' first | exact trivial | assumption | exact Nat.le_of_ble_eq_true rfl | apply And.intro | exact zAm _ _ ‹_› | exact zAi _ _ ‹_› | (intro hh_; have hg_ := hh_; (try simp only [zAr, zAs, zBm, zBp, Bool.and_eq_true, ne_eq, decide_eq_true_eq, decide_eq_false_iff_not] at hg_)) | intro _ | exact rfl | omega))
      all_goals (rw [hg (by omega)]; first | exact rfl | exact Nat.le_of_ble_eq_true rfl)
     rw [hg hlt]
     exact ⟨(l.getD p zBj).k, ⟨zSE hs hs1 hs2 hs3 hlt hq, by omega⟩, zle⟩
    have hc : (bif decide ((l.getD p zBj).k = 5) then true else decide ((l.getD p zBj).k = 4)) = false := hc
    have hq : ¬ ((l.getD p zBj).k = 5 \/ (l.getD p zBj).k = 4) := by simpa using hc
    repeat' apply zn
    exact ⟨3, ⟨zRN hs hs1 hs2 hs3 fun h => hq h.2, .inl rfl⟩, zle⟩
   have e1 : decide ((eI (p : Int)).int < ((zFU l).xs.length : Int)) = false := decide_eq_false (by rw [h1, h2]; omega)
   rw [e1]
   refine zc (fun hc => ?_) fun hc => ?_
   ·exact absurd (show false = true from hc) Bool.noConfusion
   repeat' apply zn
   exact ⟨3, ⟨zRN hs hs1 hs2 hs3 fun h => hlt h.1, .inl rfl⟩, zle⟩
  rintro k ⟨hl, hk3⟩
  rw [hl]
  unfold zSF
  have hk0 : k ≠ 0 := by omega
  have h1 := zNf l ho p k hk0
  unfold zBl at h1
  by_cases hk : zAU l ⟨p, 0⟩ = k
  rotate_left
  ·rw [if_neg hk]
   simp only [if_neg hk] at h1
   have he : ¬ (zBQ l ⟨p, 0⟩).e = 0 := zCY
   refine zPQ 4 900000 mk2 (fun u => (h1 u).2 he) fun _ => ?_
   exact ⟨fun hh => absurd hh he, fun _ => ⟨rfl, zAv rfl rfl rfl⟩⟩
  rw [if_pos hk]
  simp only [if_pos hk] at h1
  clear hl hk
  generalize l.getD p zBj = t at h1 ⊢
  refine zQ 900000 mk2 (fun u => (h1 u).1 trivial) ?_
  clear h1
  refine zAq (s' := St.of [(0, .one (.ptr 900000 0 0)), (5, .one (.e (eI k))), (6, .one (.ptr 6 0 0)), (900000, .one (.ptr 900000 0 0)) , (1000003, .one (.eptr spE)), (1000005, .one (.eptr fsE)), (1000006, .one (.eptr acE))] (msV l (p + 1) c t)) zle ?_
  unfold zWE
  repeat' first | refine zx ?_ | fail
  refine zc (fun hc => ?_) fun hc => ?_
  ·simp only [zz] at hc
   rw [if_pos hc]
   repeat' first | refine zy ?_ ?_ | apply zn
   ·exact zzt
   ·exact zzh
   exact ⟨fun _ => ⟨.inl rfl, _, _, _, rfl, zzp, rfl, fun X => zAh (ad := []) zzi (zAg rfl rfl zzi (zAe rfl rfl rfl (zAe rfl rfl (zFO zBw c.ro (⟨3, 0, t.b, []⟩)) zm)))⟩, fun hh => absurd rfl hh⟩
  simp only [zz] at hc
  rw [if_neg hc]
  repeat' first | refine zx ?_ | fail
  refine zc (fun hc => ?_) fun hc => ?_
  ·simp only [zz] at hc
   rw [if_pos hc]
   repeat' first | refine zy ?_ ?_ | apply zn
   ·exact zzt
   ·exact zzh
   exact ⟨fun _ => ⟨.inl rfl, _, _, _, rfl, zzp, rfl, fun X => zAh (ad := []) zzi (zAg rfl rfl zzi (zAe rfl rfl rfl (zAe rfl rfl (zFO zBw c.ro (⟨4, 0, 0, t.t⟩)) zm)))⟩, fun hh => absurd rfl hh⟩
  simp only [zz] at hc
  rw [if_neg hc]
  repeat' first | refine zy ?_ ?_ | apply zn
  ·exact zzh
  exact ⟨fun _ => ⟨.inl rfl, _, _, _, rfl, zzp, rfl, fun X => zAh (ad := []) zzi (zAg rfl rfl zzi (zAe rfl rfl rfl (zAe rfl rfl (zFO zBw c.ro (⟨2, t.i, 0, []⟩)) zm)))⟩, fun hh => absurd rfl hh⟩
def zJn : Tok := sgT [42]
def agF (l : List Tok) (s : Spot) : Int := (ooF l s 0 agW).1
def zGj (l : List Tok) : Stp := fun c s =>
 if agF l s = 0 then ({ c with q := { c.q with is := c.q.is ++ [⟨0, (xpF l s).1⟩] } }, (xpF l s).2)
 else if agF l s = 1 then ({ c with q := { c.q with is := c.q.is ++ [⟨1, ex0⟩] } }, zAk l (zAk l (zAk l ⟨s.p + 1, s.e⟩ [zBf]) [zJn]) [zB7])
 else ({ c with q := { c.q with is := c.q.is ++ [⟨agF l s, (xpF l (zAk l ⟨s.p + 1, s.e⟩ [zBf])).1⟩] } }, zAk l (xpF l (zAk l ⟨s.p + 1, s.e⟩ [zBf])).2 [zB7])
theorem zTe {l : List Tok} {s : Spot} {i : Nat} (h1 : 1 <= i) (h2 : i <= 4) : ooF l s (i : Int) (agW.drop i) = if zAc l s ⟨2, awT (i : Int), 0, 0⟩ = true then ((i : Int), ⟨s.p + 1, s.e⟩) else ooF l s ((i + 1 : Nat) : Int) (agW.drop (i + 1)) := by
 have h : i = 1 \/ i = 2 \/ i = 3 \/ i = 4 := by omega
 rcases h with rfl | rfl | rfl | rfl <;> simp [ooF, agW, awT, wdT]
def msI (l : List Tok) (p : Nat) (c : Cmd) (t : Itm) : List (Nat × Blk) := [(900000, ⟨0, .box (.ds (bxC l p c)), 0⟩), (900001, ⟨0, .row 3 (c.cs.map zCm), 0⟩), (900002, ⟨0, .row 4 (c.ro.map zBw), 0⟩), (900003, ⟨0, .row 8 (c.ss.map zCe), 0⟩), (900004, ⟨0, .row 8 (c.q.is.map zBP), 0⟩), (900005, ⟨0, .row 2 (c.q.ss.map zC3), 0⟩), (3, ⟨0, .box (.es (zBP t)), 0⟩)]
theorem zWc (l : List Tok) (ho : zAW l) (hL : l.length <= 100) (p : Nat) (c : Cmd) (hp : p <= l.length) (hz : Szs c p) : zEU Tryz.prog [(900000, 31)] 83 (gY) (msC l p c) [ptS] ((zGj l c ⟨p, 0⟩).2.e = 0) (.tup []) (msC l (zGj l c ⟨p, 0⟩).2.p (zGj l c ⟨p, 0⟩).1) (chT (zGj l c ⟨p, 0⟩).2) := by
 refine zFX 58 Tryz.func83 fun X hnt => ?_
 unfold zGj agF
 have hz2 : (c.q.is.map zBP).length <= 100 := Nat.le_trans (Nat.le_of_eq (List.length_map ..)) <| Nat.le_trans hz.is (Nat.le_trans hp hL)
 repeat' first | refine zx ?_ | apply zn
 refine zAx (σ := Nat) (fun i => St.of [(0, .one (.ptr 900000 0 0)), (2, .one (.e (eI (i : Int)))), (900000, .one (.ptr 900000 0 0)) , (1000003, .one (.eptr spE)), (1000005, .one (.eptr fsE)), (1000006, .one (.eptr acE))] (msC l p c)) (fun i => 1 <= i /\ i <= 5 /\ ooF l ⟨p, 0⟩ 0 agW = ooF l ⟨p, 0⟩ (i : Int) (agW.drop i)) (fun i => 5 - i) 1 zle ⟨Nat.le_refl _, by decide, by simp [ooF, agW]⟩ ?_
 rintro i ⟨i1, i5, hJ⟩
 repeat' first | refine zx ?_ | fail
 refine zc (fun hc => ?_) fun hc => ?_
 rotate_left
 ·simp only [zz] at hc
  have i5 : i = 5 := by omega
  subst i5
  have hJ : ooF l ⟨p, 0⟩ 0 agW = (0, zBQ l ⟨p, 0⟩) := hJ
  rw [hJ]
  dsimp only
  rw [if_pos rfl]
  refine zAt ?_
  repeat' apply zn
  refine zAq (s' := St.of [(0, .one (.ptr 900000 0 0)), (900000, .one (.ptr 900000 0 0)) , (1000003, .one (.eptr spE)), (1000005, .one (.eptr fsE)), (1000006, .one (.eptr acE))] (msC l p c)) zle ?_
  have h1 := zST l ho p hp
  generalize (xpF l ⟨p, 0⟩) = A at h1 ⊢
  obtain ⟨x, p3, e1⟩ := A
  dsimp only at h1 ⊢
  by_cases he : e1 = 0
  rotate_left
  ·repeat' apply zn
   refine zC6 (T := tab) tOk hnt zAO [0, 1, 2, 3, 4, 5, 7] 6 8 (zA2 (T := tab) rfl ?_ (.nil _)) (zA2 (T := tab) rfl ?_ (.nil _)) rfl (zA8 900000 mk2 [] rfl rfl rfl (fun u => (h1 u).2 he) rfl rfl (fun _ => rfl) rfl (fun _ _ _ => zg) rfl rfl rfl (fun s' ht hm x => ?_)) (zA8 900000 mk2 [] rfl rfl rfl (fun u => (h1 u).2 he) rfl rfl (fun _ => rfl) rfl (fun _ _ _ => zg) rfl rfl rfl (fun s' ht hm x => ?_)) (by decide +kernel) (by decide +kernel)
   ·exact zzt
   ·exact zzt
   ·exact ⟨fun hh => absurd hh he, fun _ => ⟨rfl, zAv (ht 900000 (by decide)).symm rfl rfl⟩⟩
   ·exact ⟨fun hh => absurd hh he, fun _ => ⟨rfl, zAv (ht 900000 (by decide)).symm rfl rfl⟩⟩
  subst he
  simp only [zAp x] at h1
  repeat' apply zn
  refine zLF (T := tab) tOk hnt zAO [0, 1, 2, 3, 4, 5, 7] 6 8 [9, 10, 11, 12, 13, 14, 15, 16] (zA2 (T := tab) rfl ?_ (.nil _)) (zA2 (T := tab) rfl ?_ (zDM 900000 mk2 rfl rfl rfl (fun u => (h1 u).1 trivial) rfl rfl (fun _ => rfl) (fun _ => rfl) rfl (fun _ _ _ => zg) rfl rfl rfl rfl (fun _ => rfl) (zA2 (T := tab) rfl ?_ (.nil _)))) (zDM 900000 mk2 rfl rfl rfl (fun u => (h1 u).1 trivial) rfl rfl (fun _ => rfl) (fun _ => rfl) rfl (fun _ _ _ => zg) rfl rfl rfl rfl (fun _ => rfl) (zA2 (T := tab) rfl ?_ (.nil _))) (by decide +kernel) (by decide +kernel) ?_ ?_
  ·exact zzt
  ·exact zzt
  ·exact zzh
  ·exact zzh
  ·repeat' apply zn
   exact ⟨fun _ => ⟨.inl rfl, _, _, _, rfl, zzp, rfl, fun X => zAh (ad := []) zzi (zAg rfl rfl zzi (zAe rfl rfl rfl (zAe rfl rfl rfl (zAe rfl rfl rfl (zAe rfl rfl (zFO zBP c.q.is ⟨0, x⟩) zm)))))⟩, fun hh => absurd rfl hh⟩
  ·repeat' apply zn
   exact ⟨fun _ => ⟨.inl rfl, _, _, _, rfl, zzp, rfl, fun X => zAh (ad := []) zzi (zAg rfl rfl zzi (zAe rfl rfl rfl (zAe rfl rfl rfl (zAe rfl rfl rfl (zAe rfl rfl (zFO zBP c.q.is ⟨0, x⟩) zm)))))⟩, fun hh => absurd rfl hh⟩
 simp only [zz] at hc
 have i4 : i <= 4 := by omega
 rw [zTe i1 i4] at hJ
 have hw := zTd (i : Int)
 have hk := fun u => zCg l ho.1 p u 2 (awT (i : Int))
 repeat' apply zn
 refine zAK (T := tab) tOk hnt zAO (zA2 (T := tab) rfl ?_ (zNH rfl rfl rfl rfl rfl rfl rfl rfl (hw) (zA2 (T := tab) rfl ?_ (zDM 900000 mk2 rfl rfl rfl (hk) rfl rfl (fun _ => rfl) (fun _ => rfl) rfl (fun _ _ _ => zg) rfl rfl rfl rfl (fun _ => rfl) (zA2 (T := tab) rfl ?_ (.nil _)))))) (by first | decide +kernel | kernel_rfl) ?_
 ·exact zzt
 ·exact zzt
 ·exact zzt
 clear hk hw
 cases hs : zAc l ⟨p, 0⟩ ⟨2, awT (i : Int), 0, 0⟩ with
 | false =>
  rw [hs, if_neg Bool.noConfusion] at hJ
  refine zc (fun hc => ?_) fun hc => ?_
  ·refine zAt ?_
   repeat' first | refine zx ?_ | apply zn
   exact ⟨i + 1, ⟨Nat.le_succ_of_le i1, Nat.succ_le_succ i4, hJ⟩, by omega, zAh (ad := []) ⟨⟨rfl, rfl, rfl, rfl, rfl⟩, congrArg (fun z : Int => E.v (.int .i64 z)) (zAf (by omega) (by omega)), ⟨rfl, rfl, rfl, rfl, rfl⟩, rfl, rfl, rfl, trivial⟩ zm⟩
  exact absurd hc Bool.noConfusion
 | true =>
  rw [hs, if_pos rfl] at hJ
  have hlt := (zAw.1 hs).2.1
  dsimp only at hlt
  rw [hJ]
  dsimp only
  rw [if_neg (show ¬ (i : Int) = 0 by omega)]
  refine zc (fun hc => ?_) fun hc => ?_
  ·exact absurd hc Bool.noConfusion
  repeat' apply zn
  repeat' first | refine zx ?_ | apply zn
  refine zAq (s' := St.of [(0, .one (.ptr 900000 0 0)), (2, .one (.e (eI (i : Int)))), (3, .one (.ptr 3 0 0)), (900000, .one (.ptr 900000 0 0)) , (1000003, .one (.eptr spE)), (1000005, .one (.eptr fsE)), (1000006, .one (.eptr acE))] (msI l (p + 1) c (⟨(i : Int), ex0⟩))) zle ?_
  have h1 := zHr l ho (p + 1) zBf [40] rfl
  have hf1 := (zAo l [zBf] ⟨p + 1, 0⟩).2 hlt
  generalize zAk l ⟨p + 1, 0⟩ [zBf] = A at h1 hf1 ⊢
  obtain ⟨p2, e1⟩ := A
  dsimp only at h1 hf1 ⊢
  by_cases he : e1 = 0
  rotate_left
  ·simp only [zAX he, zH6 he, zK5, ite_self]
   refine zPQ 1 900000 mk2 (fun u => (h1 u).2 he) fun _ => ?_
   exact ⟨fun hh => absurd hh he, fun _ => ⟨rfl, zAv rfl rfl rfl⟩⟩
  subst he
  refine zQ 900000 mk2 (fun u => (h1 u).1 rfl) ?_
  clear h1
  refine zAq (s' := St.of [(0, .one (.ptr 900000 0 0)), (2, .one (.e (eI (i : Int)))), (3, .one (.ptr 3 0 0)), (900000, .one (.ptr 900000 0 0)) , (1000003, .one (.eptr spE)), (1000005, .one (.eptr fsE)), (1000006, .one (.eptr acE))] (msI l p2 c (⟨(i : Int), ex0⟩))) zle ?_
  repeat' first | refine zx ?_ | fail
  refine zc (fun hc => ?_) fun hc => ?_
  ·simp only [zz] at hc
   rw [if_pos hc]
   have h1 := zHr l ho p2 zJn [42] rfl
   generalize (zAk l ⟨p2, 0⟩ [zJn]) = A at h1 ⊢
   obtain ⟨p3, e1⟩ := A
   dsimp only at h1 ⊢
   by_cases he : e1 = 0
   rotate_left
   ·simp only [zAX he]
    refine zPQ 1 900000 mk2 (fun u => (h1 u).2 he) fun _ => ?_
    exact ⟨fun hh => absurd hh he, fun _ => ⟨rfl, zAv rfl rfl rfl⟩⟩
   subst he
   refine zQ 900000 mk2 (fun u => (h1 u).1 rfl) ?_
   clear h1
   refine zAq (s' := St.of [(0, .one (.ptr 900000 0 0)), (2, .one (.e (eI (i : Int)))), (3, .one (.ptr 3 0 0)), (900000, .one (.ptr 900000 0 0)) , (1000003, .one (.eptr spE)), (1000005, .one (.eptr fsE)), (1000006, .one (.eptr acE))] (msI l p3 c (⟨(i : Int), ex0⟩))) zle ?_
   rw [<-hc]
   have h1 := zHr l ho p3 zB7 [41] rfl
   generalize (zAk l ⟨p3, 0⟩ [zB7]) = A at h1 ⊢
   obtain ⟨p9, e1⟩ := A
   dsimp only at h1 ⊢
   by_cases he : e1 = 0
   rotate_left
   ·refine zPQ 1 900000 mk2 (fun u => (h1 u).2 he) fun _ => ?_
    exact ⟨fun hh => absurd hh he, fun _ => ⟨rfl, zAv rfl rfl rfl⟩⟩
   subst he
   refine zQ 900000 mk2 (fun u => (h1 u).1 rfl) ?_
   clear h1
   refine zAq (s' := St.of [(0, .one (.ptr 900000 0 0)), (2, .one (.e (eI (i : Int)))), (3, .one (.ptr 3 0 0)), (900000, .one (.ptr 900000 0 0)) , (1000003, .one (.eptr spE)), (1000005, .one (.eptr fsE)), (1000006, .one (.eptr acE))] (msI l p9 c (⟨(i : Int), ex0⟩))) zle ?_
   refine zy ?_ ?_
   ·exact zzh
   repeat' apply zn
   refine zAb ?_
   exact ⟨fun _ => ⟨.inr rfl, _, _, _, rfl, zzp, rfl, fun X => zAh (ad := []) zzi (zAg rfl rfl zzi (zAe rfl rfl rfl (zAe rfl rfl rfl (zAe rfl rfl rfl (zAe rfl rfl (zFO zBP c.q.is (⟨(i : Int), ex0⟩)) zm)))))⟩, fun hh => absurd rfl hh⟩
  simp only [zz] at hc
  rw [if_neg hc]
  have h1 := zST l ho p2 hf1
  generalize (xpF l ⟨p2, 0⟩) = A at h1 ⊢
  obtain ⟨x, p3, e1⟩ := A
  dsimp only at h1 ⊢
  by_cases he : e1 = 0
  rotate_left
  ·simp only [zAX he]
   refine zPQ 1 900000 mk2 (fun u => (h1 u).2 he) fun _ => ?_
   exact ⟨fun hh => absurd hh he, fun _ => ⟨rfl, zAv rfl rfl rfl⟩⟩
  subst he
  simp only [zAp x] at h1
  refine zQ 900000 mk2 (fun u => (h1 u).1 trivial) ?_
  clear h1
  refine zAq (s' := St.of [(0, .one (.ptr 900000 0 0)), (2, .one (.e (eI (i : Int)))), (3, .one (.ptr 3 0 0)), (900000, .one (.ptr 900000 0 0)) , (1000003, .one (.eptr spE)), (1000005, .one (.eptr fsE)), (1000006, .one (.eptr acE))] (msI l p3 c (⟨(i : Int), x⟩))) zle ?_
  have h1 := zHr l ho p3 zB7 [41] rfl
  generalize (zAk l ⟨p3, 0⟩ [zB7]) = A at h1 ⊢
  obtain ⟨p9, e1⟩ := A
  dsimp only at h1 ⊢
  by_cases he : e1 = 0
  rotate_left
  ·refine zPQ 1 900000 mk2 (fun u => (h1 u).2 he) fun _ => ?_
   exact ⟨fun hh => absurd hh he, fun _ => ⟨rfl, zAv rfl rfl rfl⟩⟩
  subst he
  refine zQ 900000 mk2 (fun u => (h1 u).1 rfl) ?_
  clear h1
  refine zAq (s' := St.of [(0, .one (.ptr 900000 0 0)), (2, .one (.e (eI (i : Int)))), (3, .one (.ptr 3 0 0)), (900000, .one (.ptr 900000 0 0)) , (1000003, .one (.eptr spE)), (1000005, .one (.eptr fsE)), (1000006, .one (.eptr acE))] (msI l p9 c (⟨(i : Int), x⟩))) zle ?_
  refine zy ?_ ?_
  ·exact zzh
  repeat' apply zn
  refine zAb ?_
  exact ⟨fun _ => ⟨.inr rfl, _, _, _, rfl, zzp, rfl, fun X => zAh (ad := []) zzi (zAg rfl rfl zzi (zAe rfl rfl rfl (zAe rfl rfl rfl (zAe rfl rfl rfl (zAe rfl rfl (zFO zBP c.q.is (⟨(i : Int), x⟩)) zm)))))⟩, fun hh => absurd rfl hh⟩
end Go.Proofs.YtcdifgacoleckaaGreatDoor
