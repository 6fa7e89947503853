/- Part of the proof: steps of the program over abstract states. No condition. -/
import Derived.Test.YtcdifgacoleckaaGreatDoorG06
import Derived.Test.YtcdifgacoleckaaGreatDoorG08
import Derived.Test.YtcdifgacoleckaaGreatDoorG09
import Derived.Test.YtcdifgacoleckaaGreatDoorG07
import Derived.Test.YtcdifgacoleckaaGreatDoorG04
set_option linter.unusedVariables false
set_option linter.unusedSimpArgs false
namespace Go.Proofs.YtcdifgacoleckaaGreatDoor
open Go Go.RowKit Go.Proofs.YtcdifgacoleckaaGreatDoor.Ab
set_option maxRecDepth 100000
set_option maxHeartbeats 4000000
def gZ : List (Nat × List E) := [(4, mkE), (3, spE), (5, fsE), (6, acE)]
theorem zP6 {w : Byt} (h : Tks w [wtk w]) : ∀ x ∈ [w], Tks x [wtk x] := fun x hx => by rw [List.mem_singleton.1 hx]; exact h
theorem zPM {v w : Byt} (g : Tks v [wtk v]) (h : Tks w [wtk w]) : ∀ x ∈ [v, w], Tks x [wtk x] := fun x hx => by
 rcases List.mem_cons.1 hx with rfl | hx
 ·exact g
 ·rw [List.mem_singleton.1 hx]; exact h
def Pst (l : List Tok) (s : Spot) (w : Byt) (ts : List Tok) : Prop := FnG Tryz.prog 23 [(3, spE)] [.agg (.es (eSp l s)), .one (.e (eT w))] (.agg (.es (eSp l (zAk l s ts))))
theorem zWI (l : List Tok) (hm : l.length <= maxLen) (s : Spot) : Pst l s [40] [zBf] := zBr l hm s [40] [[40]] zCb (zP6 (tk1 zCb (by decide))) (by decide)
theorem zRC (l : List Tok) (hm : l.length <= maxLen) (s : Spot) : Pst l s [41] [zB7] := zBr l hm s [41] [[41]] zIL (zP6 (tk1 zIL (by decide))) (by decide)
theorem zWJ (l : List Tok) (hm : l.length <= maxLen) (s : Spot) : Pst l s [44] [zFo] := zBr l hm s [44] [[44]] zIK (zP6 (tk1 zIK (by decide))) (by decide)
theorem zXg (l : List Tok) (hm : l.length <= maxLen) (s : Spot) : Pst l s [78, 79, 84] [zIe] := zBr l hm s _ [[78, 79, 84]] zGm (zP6 (tk1 zGm (by decide))) (by decide)
theorem zWH (l : List Tok) (hm : l.length <= maxLen) (s : Spot) : Pst l s [45] [zGx] := zBr l hm s _ [[45]] zFg (zP6 (tk1 zFg (by decide))) (by decide)
theorem zVS (l : List Tok) (hm : l.length <= maxLen) (s : Spot) : Pst l s [73, 83, 32, 78, 85, 76, 76] [zCS, zB8] := zBr l hm s _ [[73, 83], [78, 85, 76, 76]] zQW (zPM (tk1 zWV (by decide)) (tk1 zGl (by decide))) (by decide)
theorem zVR (l : List Tok) (hm : l.length <= maxLen) (s : Spot) : Pst l s [76, 69, 78, 71, 84, 72, 32, 40] [zDz, zBf] := zBr l hm s _ [[76, 69, 78, 71, 84, 72], [40]] zQV (zPM (tk1 zVr (by decide)) (tk1 zCb (by decide))) (by decide)
theorem zVX (l : List Tok) (hm : l.length <= maxLen) (s : Spot) : Pst l s [67, 79, 65, 76, 69, 83, 67, 69, 32, 40] [zDa, zBf] := zBr l hm s _ [[67, 79, 65, 76, 69, 83, 67, 69], [40]] zQU (zPM (tk1 zVt (by decide)) (tk1 zCb (by decide))) (by decide)
abbrev zIo (l : List Tok) (r : Ex × Spot) : D := .tup [(true, .es (eEx r.1)), (true, .es (eSp l r.2))]
def Clb (l : List Tok) (lv : Nat) (s : Spot) (r : Ex × Spot) : Prop := FnG Tryz.prog 30 gZ [.agg (.es (eSp l s)), .one (.e (eI (lv : Int)))] (zIo l r)
theorem zJY (l : List Tok) (ho : zAW l) (s : Spot) (c0 : Spot -> Ex × Spot) (hcf : Fwd l c0) (hcl : s.e = 0 -> ∀ s', s.p < s'.p -> s'.p <= l.length -> Clb l 0 s' (c0 s')) : FnG Tryz.prog 71 (gZ) [.agg (.es (eSp l s))] (zIo l (zA3 l c0 s)) := by
 refine zG 145 Tryz.func71 fun X hnt => ?_
 have hm := ho.1
 have hm' : l.length <= 9223372036854775807 := Nat.le_trans hm (by decide)
 generalize hgr : zA3 l c0 s = g at *
 unfold zA3 at hgr
 repeat' first | refine zx ?_ | apply zn
 refine zAq (s' := St.of [(1, .one (.ptr 1 0 0)), (2, .one (.ptr 2 0 0)), (3, .one (.ptr 3 0 0)), (4, .one (.clo 93 [(1, 0, 0)])), ((1000000 + 4), .one (.eptr mkE)), ((1000000 + 3), .one (.eptr spE)), ((1000000 + 5), .one (.eptr fsE)), ((1000000 + 6), .one (.eptr acE))] [(1, ⟨0, .box (.es (eSp l s)), 0⟩), (2, ⟨0, .box (.ds [.e (eI 0), .e (eI 0), .e (eI 0), .e (eQ 0), .e (eT []), .e (eT []), .nil]), 0⟩), (3, ⟨0, .box (.ds [.nil, .e (eI 0), .e (eI 0)]), 0⟩)]) (zAh (ad := []) ⟨zzl, zzl, zzl, zzl, zzl, zzl, zzl, zzl, trivial⟩ zm) ?_
 cases hs1 : zAc l s zB8 with
 | true =>
  rw [if_pos hs1] at hgr
  subst hgr
  have hlt := (zAw.1 hs1).2.1
  have hmx : s.p < 9223372036854775807 := by omega
  have hsn := zAT l s ([78, 85, 76, 76]) zB8 [] zLI
  rw [hs1] at hsn
  refine zV hsn ?_
  refine zc (fun hc => ?_) fun hc => ?_
  ·have w7 : (Cs.es (eEx (zEi zBD))).len = 7 := by rw [zAp]; rfl
   have hl := zHP l s zBD hmx
   refine zH [(900000, 1)] [] [] hl ?_
   exact zAb ⟨.inr rfl, _, _, rfl, (by (repeat' first | exact trivial | exact Nat.le_of_ble_eq_true rfl | exact Nat.le_of_eq w7.symm | apply And.intro)), congrArg (fun x => D.tup [(true, Cs.es x), (true, Cs.es _)]) (tk7 _)⟩
  exact absurd hc Bool.noConfusion
 | false =>
 rw [if_neg (by rw [hs1]; exact Bool.noConfusion)] at hgr
 have hsn := zAT l s ([78, 85, 76, 76]) zB8 [] zLI
 rw [hs1] at hsn
 refine zV hsn ?_
 refine zc (fun hc => ?_) fun hc => ?_
 ·exact absurd hc Bool.noConfusion
 refine zAq (s' := St.of [(1, .one (.ptr 1 0 0)), (2, .one (.ptr 2 0 0)), (3, .one (.ptr 3 0 0)), (4, .one (.clo 93 [(1, 0, 0)])), ((1000000 + 4), .one (.eptr mkE)), ((1000000 + 3), .one (.eptr spE)), ((1000000 + 5), .one (.eptr fsE)), ((1000000 + 6), .one (.eptr acE))] [(1, ⟨0, .box (.es (eSp l s)), 0⟩), (2, ⟨0, .box (.ds [.e (eI 0), .e (eI 0), .e (eI 0), .e (eQ 0), .e (eT []), .e (eT []), .nil]), 0⟩), (3, ⟨0, .box (.ds [.nil, .e (eI 0), .e (eI 0)]), 0⟩)]) (zAh (ad := []) ⟨zzl, zzl, zzl, zzl, zzl, zzl, zzl, zzl, trivial⟩ zm) ?_
 cases hs2 : zAc l s zLK with
 | true =>
  rw [if_pos hs2] at hgr
  subst hgr
  have hlt := (zAw.1 hs2).2.1
  have hmx : s.p < 9223372036854775807 := by omega
  have hsn := zAT l s ([84, 82, 85, 69]) zLK [] zLG
  rw [hs2] at hsn
  refine zV hsn ?_
  refine zc (fun hc => ?_) fun hc => ?_
  ·have w7 : (Cs.es (eEx (zEi (⟨1, 1, 0, []⟩)))).len = 7 := by rw [zAp]; rfl
   have hl := zHP l s (⟨1, 1, 0, []⟩) hmx
   refine zH [(900000, 1)] [] [] hl ?_
   exact zAb ⟨.inr rfl, _, _, rfl, (by (repeat' first | exact trivial | exact Nat.le_of_ble_eq_true rfl | exact Nat.le_of_eq w7.symm | apply And.intro)), congrArg (fun x => D.tup [(true, Cs.es x), (true, Cs.es _)]) (tk7 _)⟩
  exact absurd hc Bool.noConfusion
 | false =>
 rw [if_neg (by rw [hs2]; exact Bool.noConfusion)] at hgr
 have hsn := zAT l s ([84, 82, 85, 69]) zLK [] zLG
 rw [hs2] at hsn
 refine zV hsn ?_
 refine zc (fun hc => ?_) fun hc => ?_
 ·exact absurd hc Bool.noConfusion
 refine zAq (s' := St.of [(1, .one (.ptr 1 0 0)), (2, .one (.ptr 2 0 0)), (3, .one (.ptr 3 0 0)), (4, .one (.clo 93 [(1, 0, 0)])), ((1000000 + 4), .one (.eptr mkE)), ((1000000 + 3), .one (.eptr spE)), ((1000000 + 5), .one (.eptr fsE)), ((1000000 + 6), .one (.eptr acE))] [(1, ⟨0, .box (.es (eSp l s)), 0⟩), (2, ⟨0, .box (.ds [.e (eI 0), .e (eI 0), .e (eI 0), .e (eQ 0), .e (eT []), .e (eT []), .nil]), 0⟩), (3, ⟨0, .box (.ds [.nil, .e (eI 0), .e (eI 0)]), 0⟩)]) (zAh (ad := []) ⟨zzl, zzl, zzl, zzl, zzl, zzl, zzl, zzl, trivial⟩ zm) ?_
 cases hs3 : zAc l s zLL with
 | true =>
  rw [if_pos hs3] at hgr
  subst hgr
  have hlt := (zAw.1 hs3).2.1
  have hmx : s.p < 9223372036854775807 := by omega
  have hsn := zAT l s ([70, 65, 76, 83, 69]) zLL [] zLH
  rw [hs3] at hsn
  refine zV hsn ?_
  refine zc (fun hc => ?_) fun hc => ?_
  ·have w7 : (Cs.es (eEx (zEi (⟨1, 0, 0, []⟩)))).len = 7 := by rw [zAp]; rfl
   have hl := zHP l s (⟨1, 0, 0, []⟩) hmx
   refine zH [(900000, 1)] [] [] hl ?_
   exact zAb ⟨.inr rfl, _, _, rfl, (by (repeat' first | exact trivial | exact Nat.le_of_ble_eq_true rfl | exact Nat.le_of_eq w7.symm | apply And.intro)), congrArg (fun x => D.tup [(true, Cs.es x), (true, Cs.es _)]) (tk7 _)⟩
  exact absurd hc Bool.noConfusion
 | false =>
 rw [if_neg (by rw [hs3]; exact Bool.noConfusion)] at hgr
 have hsn := zAT l s ([70, 65, 76, 83, 69]) zLL [] zLH
 rw [hs3] at hsn
 refine zV hsn ?_
 refine zc (fun hc => ?_) fun hc => ?_
 ·exact absurd hc Bool.noConfusion
 refine zAq (s' := St.of [(1, .one (.ptr 1 0 0)), (2, .one (.ptr 2 0 0)), (3, .one (.ptr 3 0 0)), (4, .one (.clo 93 [(1, 0, 0)])), ((1000000 + 4), .one (.eptr mkE)), ((1000000 + 3), .one (.eptr spE)), ((1000000 + 5), .one (.eptr fsE)), ((1000000 + 6), .one (.eptr acE))] [(1, ⟨0, .box (.es (eSp l s)), 0⟩), (2, ⟨0, .box (.ds [.e (eI 0), .e (eI 0), .e (eI 0), .e (eQ 0), .e (eT []), .e (eT []), .nil]), 0⟩), (3, ⟨0, .box (.ds [.nil, .e (eI 0), .e (eI 0)]), 0⟩)]) (zAh (ad := []) ⟨zzl, zzl, zzl, zzl, zzl, zzl, zzl, zzl, trivial⟩ zm) ?_
 cases hs4 : zAc l s zBf with
 | true =>
  rw [if_pos hs4] at hgr
  have hlt := (zAw.1 hs4).2.1
  have hz := hcl (zAw.1 hs4).1 (zAk l s [zBf]) (by rw [zA6 hs4]; exact Nat.lt_succ_self _) (by rw [zA6 hs4]; exact hlt)
  have hp := zWI l hm s
  unfold Clb at hz
  unfold Pst at hp
  generalize c0 (zAk l s [zBf]) = r at *
  obtain ⟨e1, s1⟩ := r
  have hgr : (e1, zAk l s1 [zB7]) = g := hgr
  subst hgr
  have w7 : (Cs.es (eEx e1)).len = 7 := by rw [zAp]; rfl
  have w8 : (Cs.es (List.take 7 (List.drop 0 (eEx e1)))).len = 7 := by rw [tk7]; exact w7
  have hsn := zAT l s ([40]) zBf [] zLJ
  rw [hs4] at hsn
  refine zV hsn ?_
  refine zc (fun hc => ?_) fun hc => ?_
  ·repeat' apply zn
   refine zAa (zzx hnt rfl ?_ (callV rfl rfl rfl rfl rfl rfl rfl hnt rfl (hp) (zzx hnt rfl ?_ (callV rfl rfl rfl rfl rfl rfl rfl hnt rfl (hz) (zzx hnt rfl ?_ (Lex.nil _)))))) ?_
   ·exact zzt
   ·exact zzt
   ·exact zzt
   have hp := zRC l hm s1
   unfold Pst at hp
   repeat' apply zn
   refine zAK (T := tab) tOk hnt zAO (zA2 (T := tab) rfl ?_ (zCI rfl rfl rfl rfl rfl rfl rfl rfl rfl (hp) (zA2 (T := tab) rfl ?_ (.nil _)))) (by first | decide +kernel | kernel_rfl) ?_
   ·exact zza
   ·exact zza
   exact zAb ⟨.inr rfl, _, _, rfl, (by (repeat' first | exact trivial | exact Nat.le_of_ble_eq_true rfl | exact Nat.le_of_eq w7.symm | exact Nat.le_of_eq w8.symm | apply And.intro)), congrArg (fun x => D.tup [(true, Cs.es x), (true, Cs.es _)]) (zTi _)⟩
  exact absurd hc Bool.noConfusion
 | false =>
 rw [if_neg (by rw [hs4]; exact Bool.noConfusion)] at hgr
 have hsn := zAT l s ([40]) zBf [] zLJ
 rw [hs4] at hsn
 refine zV hsn ?_
 refine zc (fun hc => ?_) fun hc => ?_
 ·exact absurd hc Bool.noConfusion
 refine zAq (s' := St.of [(1, .one (.ptr 1 0 0)), (2, .one (.ptr 2 0 0)), (3, .one (.ptr 3 0 0)), (4, .one (.clo 93 [(1, 0, 0)])), ((1000000 + 4), .one (.eptr mkE)), ((1000000 + 3), .one (.eptr spE)), ((1000000 + 5), .one (.eptr fsE)), ((1000000 + 6), .one (.eptr acE))] [(1, ⟨0, .box (.es (eSp l s)), 0⟩), (2, ⟨0, .box (.ds [.e (eI 0), .e (eI 0), .e (eI 0), .e (eQ 0), .e (eT []), .e (eT []), .nil]), 0⟩), (3, ⟨0, .box (.ds [.nil, .e (eI 0), .e (eI 0)]), 0⟩)]) (zAh (ad := []) ⟨zzl, zzl, zzl, zzl, zzl, zzl, zzl, zzl, trivial⟩ zm) ?_
 cases hs5 : zAc l s zDz with
 | true =>
  rw [if_pos hs5] at hgr
  have hlt := (zAw.1 hs5).2.1
  have hq : s.p < (zAk l s [zDz, zBf]).p /\ (zAk l s [zDz, zBf]).p <= l.length := by
   have h := zAo l [zBf] ⟨s.p + 1, s.e⟩
   rw [zAQ, if_pos hs5]
   exact ⟨Nat.lt_of_lt_of_le (Nat.lt_succ_self _) h.1, h.2 hlt⟩
  have hz := hcl (zAw.1 hs5).1 (zAk l s [zDz, zBf]) hq.1 hq.2
  have hp := zVR l hm s
  unfold Clb at hz
  unfold Pst at hp
  generalize c0 (zAk l s [zDz, zBf]) = r at *
  obtain ⟨e1, s1⟩ := r
  have hgr : (.mk 18 zBD [] [e1], zAk l s1 [zB7]) = g := hgr
  subst hgr
  have w7 : (Cs.es (eEx e1)).len = 7 := by rw [zAp]; rfl
  have w8 : (Cs.es (List.take 7 (List.drop 0 (eEx e1)))).len = 7 := by rw [tk7]; exact w7
  have hsn := zAT l s ([76, 69, 78, 71, 84, 72]) zDz [] (tk1 zVr (by decide))
  rw [hs5] at hsn
  refine zV hsn ?_
  refine zc (fun hc => ?_) fun hc => ?_
  ·repeat' apply zn
   refine zAa (zzx hnt rfl ?_ (callV rfl rfl rfl rfl rfl rfl rfl hnt rfl (hp) (zzx hnt rfl ?_ (callV rfl rfl rfl rfl rfl rfl rfl hnt rfl (hz) (zzx hnt rfl ?_ (Lex.nil _)))))) ?_
   ·exact zzt
   ·exact zzt
   ·exact zzt
   have hp := zRC l hm s1
   unfold Pst at hp
   repeat' apply zn
   refine zAK (T := tab) tOk hnt zAO (zA2 (T := tab) rfl ?_ (zCI rfl rfl rfl rfl rfl rfl rfl rfl rfl (hp) (zA2 (T := tab) rfl ?_ (.nil _)))) (by first | decide +kernel | kernel_rfl) ?_
   ·exact zza
   ·exact zza
   refine zAq (zDK 2 rfl rfl rfl) ?_
   exact zAb ⟨.inr rfl, _, _, rfl, (by (repeat' first | exact trivial | exact Nat.le_of_ble_eq_true rfl | exact Nat.le_of_eq w7.symm | exact Nat.le_of_eq w8.symm | apply And.intro)), congrArg (fun x => D.tup [(true, Cs.es x), (true, Cs.es _)]) (by rw [zBZ, tk7]; rfl)⟩
  exact absurd hc Bool.noConfusion
 | false =>
 rw [if_neg (by rw [hs5]; exact Bool.noConfusion)] at hgr
 have hsn := zAT l s ([76, 69, 78, 71, 84, 72]) zDz [] (tk1 zVr (by decide))
 rw [hs5] at hsn
 refine zV hsn ?_
 refine zc (fun hc => ?_) fun hc => ?_
 ·exact absurd hc Bool.noConfusion
 refine zAq (s' := St.of [(1, .one (.ptr 1 0 0)), (2, .one (.ptr 2 0 0)), (3, .one (.ptr 3 0 0)), (4, .one (.clo 93 [(1, 0, 0)])), ((1000000 + 4), .one (.eptr mkE)), ((1000000 + 3), .one (.eptr spE)), ((1000000 + 5), .one (.eptr fsE)), ((1000000 + 6), .one (.eptr acE))] [(1, ⟨0, .box (.es (eSp l s)), 0⟩), (2, ⟨0, .box (.ds [.e (eI 0), .e (eI 0), .e (eI 0), .e (eQ 0), .e (eT []), .e (eT []), .nil]), 0⟩), (3, ⟨0, .box (.ds [.nil, .e (eI 0), .e (eI 0)]), 0⟩)]) (zAh (ad := []) ⟨zzl, zzl, zzl, zzl, zzl, zzl, zzl, zzl, trivial⟩ zm) ?_
 cases hs6 : zAc l s zDa with
 | true =>
  rw [if_pos hs6] at hgr
  have hlt := (zAw.1 hs6).2.1
  have hq : s.p < (zAk l s [zDa, zBf]).p /\ (zAk l s [zDa, zBf]).p <= l.length := by
   have h := zAo l [zBf] ⟨s.p + 1, s.e⟩
   rw [zAQ, if_pos hs6]
   exact ⟨Nat.lt_of_lt_of_le (Nat.lt_succ_self _) h.1, h.2 hlt⟩
  have hz := hcl (zAw.1 hs6).1 (zAk l s [zDa, zBf]) hq.1 hq.2
  have hf1 := hcf (zAk l s [zDa, zBf])
  have hp := zVX l hm s
  unfold Clb at hz
  unfold Pst at hp
  generalize c0 (zAk l s [zDa, zBf]) = r at *
  obtain ⟨e1, s1⟩ := r
  have hq1 : s.p < s1.p /\ s1.p <= l.length := ⟨Nat.lt_of_lt_of_le hq.1 hf1.1, hf1.2 hq.2⟩
  have hgr : (.mk 20 zBD [] [e1, (c0 (zAk l s1 [zFo])).1], zAk l (c0 (zAk l s1 [zFo])).2 [zB7]) = g := hgr
  have hq2 := zAo l [zFo] s1
  have hz2 := hcl (zAw.1 hs6).1 (zAk l s1 [zFo]) (Nat.lt_of_lt_of_le hq1.1 hq2.1) (hq2.2 hq1.2)
  have hp2 := zWJ l hm s1
  unfold Clb at hz2
  unfold Pst at hp2
  generalize c0 (zAk l s1 [zFo]) = r2 at *
  obtain ⟨e2, s2⟩ := r2
  have hgr : (.mk 20 zBD [] [e1, e2], zAk l s2 [zB7]) = g := hgr
  subst hgr
  have w7 : (Cs.es (eEx e1)).len = 7 := by rw [zAp]; rfl
  have w8 : (Cs.es (List.take 7 (List.drop 0 (eEx e1)))).len = 7 := by rw [tk7]; exact w7
  have v7 : (Cs.es (eEx e2)).len = 7 := by rw [zAp]; rfl
  have v8 : (Cs.es (List.take 7 (List.drop 0 (eEx e2)))).len = 7 := by rw [tk7]; exact v7
  have hsn := zAT l s ([67, 79, 65, 76, 69, 83, 67, 69]) zDa [] (tk1 zVt (by decide))
  rw [hs6] at hsn
  refine zV hsn ?_
  refine zc (fun hc => ?_) fun hc => ?_
  ·repeat' apply zn
   refine zAa (zzx hnt rfl ?_ (callV rfl rfl rfl rfl rfl rfl rfl hnt rfl (hp) (zzx hnt rfl ?_ (callV rfl rfl rfl rfl rfl rfl rfl hnt rfl (hz) (zzx hnt rfl ?_ (Lex.nil _)))))) ?_
   ·exact zzt
   ·exact zzt
   ·exact zzt
   repeat' apply zn
   refine zAa (zzx hnt rfl ?_ (callV rfl rfl rfl rfl rfl rfl rfl hnt rfl (hp2) (zzx hnt rfl ?_ (callV rfl rfl rfl rfl rfl rfl rfl hnt rfl (hz2) (zzx hnt rfl ?_ (Lex.nil _)))))) ?_
   ·exact zzt
   ·exact zzt
   ·exact zzt
   have hp := zRC l hm s2
   unfold Pst at hp
   repeat' apply zn
   refine zAK (T := tab) tOk hnt zAO (zA2 (T := tab) rfl ?_ (zCI rfl rfl rfl rfl rfl rfl rfl rfl rfl (hp) (zA2 (T := tab) rfl ?_ (.nil _)))) (by first | decide +kernel | kernel_rfl) ?_
   ·exact zza
   ·exact zza
   refine zAq (zDK 2 rfl rfl rfl) ?_
   exact zAb ⟨.inr rfl, _, _, rfl, (by (repeat' first | exact trivial | exact Nat.le_of_ble_eq_true rfl | exact Nat.le_of_eq w7.symm | exact Nat.le_of_eq w8.symm | apply And.intro)), congrArg (fun x => D.tup [(true, Cs.es x), (true, Cs.es _)]) (by rw [zBZ, tk7, tk7]; rfl)⟩
  exact absurd hc Bool.noConfusion
 | false =>
 rw [if_neg (by rw [hs6]; exact Bool.noConfusion)] at hgr
 have hsn := zAT l s ([67, 79, 65, 76, 69, 83, 67, 69]) zDa [] (tk1 zVt (by decide))
 rw [hs6] at hsn
 refine zV hsn ?_
 refine zc (fun hc => ?_) fun hc => ?_
 ·exact absurd hc Bool.noConfusion
 refine zAq (s' := St.of [(1, .one (.ptr 1 0 0)), (2, .one (.ptr 2 0 0)), (3, .one (.ptr 3 0 0)), (4, .one (.clo 93 [(1, 0, 0)])), ((1000000 + 4), .one (.eptr mkE)), ((1000000 + 3), .one (.eptr spE)), ((1000000 + 5), .one (.eptr fsE)), ((1000000 + 6), .one (.eptr acE))] [(1, ⟨0, .box (.es (eSp l s)), 0⟩), (2, ⟨0, .box (.ds [.e (eI 0), .e (eI 0), .e (eI 0), .e (eQ 0), .e (eT []), .e (eT []), .nil]), 0⟩), (3, ⟨0, .box (.ds [.nil, .e (eI 0), .e (eI 0)]), 0⟩)]) (zAh (ad := []) ⟨zzl, zzl, zzl, zzl, zzl, zzl, zzl, zzl, trivial⟩ zm) ?_
 have hkd := zIx l ho s
 refine zV hkd ?_
 generalize hk : zAU l s = k at *
 repeat' first | refine zx ?_ | fail
 refine zc (fun hc => ?_) fun hc => ?_
 ·have hc : k = 1 := of_decide_eq_true hc
  subst hc
  have hgr : (.mk 2 zBD (l.getD s.p zBj).t [], (⟨s.p + 1, s.e⟩ : Spot)) = g := hgr
  subst hgr
  have hone := zUf l ho s hk
  refine zV hone ?_
  repeat' first | refine zx ?_ | apply zn
  exact zAb ⟨.inr rfl, _, _, rfl, zzp, congrArg (fun x => D.tup [(true, Cs.es x), (true, Cs.es _)]) (by rw [zBZ]; rfl)⟩
 have hc1 : ¬ k = 1 := of_decide_eq_false hc
 rw [if_neg hc1] at hgr
 repeat' first | refine zx ?_ | fail
 refine zc (fun hc => ?_) fun hc => ?_
 ·have hc : k = 3 := of_decide_eq_true hc
  subst hc
  rw [if_pos rfl] at hgr
  subst hgr
  have hlt := (zCj (l := l) (s := s) (by rw [hk]; decide)).2.1
  have hmx : s.p < 9223372036854775807 := by omega
  have h1 : ((eSp l s).getD (0 + 0) E.dflt).xs.length = l.length := List.length_map ..
  have h2 : ((eSp l s).getD (0 + 1) E.dflt).int = (s.p : Int) := rfl
  have hg := zHq l s hlt
  have w7 : (Cs.es (eEx (zEi (⟨2, (l.getD s.p zBj).i, 0, []⟩)))).len = 7 := by rw [zAp]; rfl
  have hl := zHP l s (⟨2, (l.getD s.p zBj).i, 0, []⟩) hmx
  have hl' : FnH Tryz.prog 93 [] (msS l s) [.agg (.es ([eI 2, E.v (.int .i64 ((List.drop 2 (((eSp l s).getD (0 + 0) E.dflt).xs.getD ((eSp l s).getD (0 + 1) E.dflt).int.toNat [])).getD 0 E.dflt).int), eQ 0, eT []])), ptS] (.tup [(true, .es (eEx (zEi (⟨2, (l.getD s.p zBj).i, 0, []⟩)))), (true, .es (eSp l ⟨s.p + 1, s.e⟩))]) (msS l ⟨s.p + 1, s.e⟩) := by
   rw [hg]
   exact hl
  repeat' apply zn
  refine zAa (zzx hnt rfl ?_ (zA9 (us := []) [(900000, 1)] [] [] rfl rfl rfl rfl (hl') zg (fun _ => rfl) rfl rfl hnt rfl rfl zzi zzi (zzx hnt rfl ?_ (Lex.nil _)))) ?_
  ·rw [hg, h1, h2]
   exact zza
  ·exact zza
  exact zAb ⟨.inr rfl, _, _, rfl, (by (repeat' first | exact trivial | exact Nat.le_of_ble_eq_true rfl | exact Nat.le_of_eq w7.symm | apply And.intro)), congrArg (fun x => D.tup [(true, Cs.es x), (true, Cs.es _)]) (tk7 _)⟩
 have hc3 : ¬ k = 3 := of_decide_eq_false hc
 rw [if_neg hc3] at hgr
 repeat' first | refine zx ?_ | fail
 refine zc (fun hc => ?_) fun hc => ?_
 ·have hc : k = 5 := of_decide_eq_true hc
  subst hc
  rw [if_pos rfl] at hgr
  subst hgr
  have hlt := (zCj (l := l) (s := s) (by rw [hk]; decide)).2.1
  have hmx : s.p < 9223372036854775807 := by omega
  have h1 : ((eSp l s).getD (0 + 0) E.dflt).xs.length = l.length := List.length_map ..
  have h2 : ((eSp l s).getD (0 + 1) E.dflt).int = (s.p : Int) := rfl
  have hg := zHq l s hlt
  have w7 : (Cs.es (eEx (zEi (⟨3, 0, (l.getD s.p zBj).b, []⟩)))).len = 7 := by rw [zAp]; rfl
  have hl := zHP l s (⟨3, 0, (l.getD s.p zBj).b, []⟩) hmx
  have hl' : FnH Tryz.prog 93 [] (msS l s) [.agg (.es ([eI 3, eI 0, E.v (.int .u64 ((List.drop 3 (((eSp l s).getD (0 + 0) E.dflt).xs.getD ((eSp l s).getD (0 + 1) E.dflt).int.toNat [])).getD 0 E.dflt).int), eT []])), ptS] (.tup [(true, .es (eEx (zEi (⟨3, 0, (l.getD s.p zBj).b, []⟩)))), (true, .es (eSp l ⟨s.p + 1, s.e⟩))]) (msS l ⟨s.p + 1, s.e⟩) := by
   rw [hg]
   exact hl
  repeat' apply zn
  refine zAa (zzx hnt rfl ?_ (zA9 (us := []) [(900000, 1)] [] [] rfl rfl rfl rfl (hl') zg (fun _ => rfl) rfl rfl hnt rfl rfl zzi zzi (zzx hnt rfl ?_ (Lex.nil _)))) ?_
  ·rw [hg, h1, h2]
   exact zza
  ·exact zza
  exact zAb ⟨.inr rfl, _, _, rfl, (by (repeat' first | exact trivial | exact Nat.le_of_ble_eq_true rfl | exact Nat.le_of_eq w7.symm | apply And.intro)), congrArg (fun x => D.tup [(true, Cs.es x), (true, Cs.es _)]) (tk7 _)⟩
 have hc5 : ¬ k = 5 := of_decide_eq_false hc
 rw [if_neg hc5] at hgr
 repeat' first | refine zx ?_ | fail
 refine zc (fun hc => ?_) fun hc => ?_
 ·have hc : k = 4 := of_decide_eq_true hc
  subst hc
  rw [if_pos rfl] at hgr
  subst hgr
  have hlt := (zCj (l := l) (s := s) (by rw [hk]; decide)).2.1
  have hmx : s.p < 9223372036854775807 := by omega
  have h1 : ((eSp l s).getD (0 + 0) E.dflt).xs.length = l.length := List.length_map ..
  have h2 : ((eSp l s).getD (0 + 1) E.dflt).int = (s.p : Int) := rfl
  have hg := zHq l s hlt
  have w7 : (Cs.es (eEx (zEi (⟨4, 0, 0, (l.getD s.p zBj).t⟩)))).len = 7 := by rw [zAp]; rfl
  have hl := zHP l s (⟨4, 0, 0, (l.getD s.p zBj).t⟩) hmx
  have hl' : FnH Tryz.prog 93 [] (msS l s) [.agg (.es ([eI 4, eI 0, eQ 0, E.v (.string ((List.drop 1 (((eSp l s).getD (0 + 0) E.dflt).xs.getD ((eSp l s).getD (0 + 1) E.dflt).int.toNat [])).getD 0 E.dflt).str)])), ptS] (.tup [(true, .es (eEx (zEi (⟨4, 0, 0, (l.getD s.p zBj).t⟩)))), (true, .es (eSp l ⟨s.p + 1, s.e⟩))]) (msS l ⟨s.p + 1, s.e⟩) := by
   rw [hg]
   exact hl
  repeat' apply zn
  refine zAa (zzx hnt rfl ?_ (zA9 (us := []) [(900000, 1)] [] [] rfl rfl rfl rfl (hl') zg (fun _ => rfl) rfl rfl hnt rfl rfl zzi zzi (zzx hnt rfl ?_ (Lex.nil _)))) ?_
  ·rw [hg, h1, h2]
   exact zza
  ·exact zza
  exact zAb ⟨.inr rfl, _, _, rfl, (by (repeat' first | exact trivial | exact Nat.le_of_ble_eq_true rfl | exact Nat.le_of_eq w7.symm | apply And.intro)), congrArg (fun x => D.tup [(true, Cs.es x), (true, Cs.es _)]) (tk7 _)⟩
 have hc4 : ¬ k = 4 := of_decide_eq_false hc
 rw [if_neg hc4] at hgr
 subst hgr
 refine zC (zKq l s) ?_
 exact zAb ⟨.inr rfl, _, _, rfl, zzp, rfl⟩
theorem zPp (l : List Tok) (ho : zAW l) (n : Nat) (s : Spot) (h1 : zAc l s zIe = true -> Clb l 2 ⟨s.p + 1, s.e⟩ (zAd l n 2 ⟨s.p + 1, s.e⟩)) (h2 : zAc l s zIe = false -> Clb l 3 s (zAd l n 3 s)) : FnG Tryz.prog 30 (gZ) [.agg (.es (eSp l s)), .one (.e (eI 2))] (zIo l (zAd l (n + 1) 2 s)) := by
 refine zG 99 Tryz.func30 fun X hnt => ?_
 have hm := ho.1
 repeat' first | refine zx ?_ | fail
 refine zc (fun hc => ?_) fun hc => ?_
 ·have hsn := zAT l s [78, 79, 84] zIe [] zP3
  cases hs : zAc l s zIe with
  | true =>
   have hE : zAd l (n + 1) 2 s = (.mk 4 zBD [] [(zAd l n 2 ⟨s.p + 1, s.e⟩).1], (zAd l n 2 ⟨s.p + 1, s.e⟩).2) := by
    rw [zAd]
    simp [hs, zA6 hs]
   have hz := h1 hs
   have hp := zXg l hm s
   unfold Pst at hp
   unfold Clb at hz
   rw [zA6 hs] at hp
   rw [hE]
   generalize zAd l n 2 ⟨s.p + 1, s.e⟩ = r at *
   obtain ⟨e1, s1⟩ := r
   have w7 : (Cs.es (eEx e1)).len = 7 := by rw [zAp]; rfl
   have w8 : (Cs.es (List.take 7 (List.drop 0 (eEx e1)))).len = 7 := by rw [tk7]; exact w7
   rw [hs] at hsn
   refine zV hsn ?_
   refine zc (fun hc => ?_) fun hc => ?_
   ·repeat' apply zn
    refine zAa (zzx hnt rfl ?_ (callV rfl rfl rfl rfl rfl rfl rfl hnt rfl (hp) (zzx hnt rfl ?_ (callV rfl rfl rfl rfl rfl rfl rfl hnt rfl (hz) (zzx hnt rfl ?_ (Lex.nil _)))))) ?_
    ·exact zzt
    ·exact zzt
    ·exact zzt
    refine zxa ?_
    refine zAq (zDK 4 rfl rfl rfl) ?_
    exact zAb ⟨.inr rfl, _, _, rfl, (by (repeat' first | exact trivial | exact Nat.le_of_ble_eq_true rfl | exact Nat.le_of_eq w7.symm | exact Nat.le_of_eq w8.symm | apply And.intro)), congrArg (fun x => D.tup [(true, Cs.es x), (true, Cs.es _)]) (by rw [zBZ, tk7]; rfl)⟩
   exact absurd hc Bool.noConfusion
  | false =>
   have hE : zAd l (n + 1) 2 s = zAd l n 3 s := by
    rw [zAd]
    simp [hs]
   have hz := h2 hs
   unfold Clb at hz
   rw [hE]
   generalize zAd l n 3 s = r at *
   obtain ⟨e1, s1⟩ := r
   have w7 : (Cs.es (eEx e1)).len = 7 := by rw [zAp]; rfl
   have w8 : (Cs.es (List.take 7 (List.drop 0 (eEx e1)))).len = 7 := by rw [tk7]; exact w7
   rw [hs] at hsn
   refine zV hsn ?_
   refine zc (fun hc => ?_) fun hc => ?_
   ·exact absurd hc Bool.noConfusion
   refine zV hz ?_
   exact zAb ⟨.inr rfl, _, _, rfl, (by (repeat' first | exact trivial | exact Nat.le_of_ble_eq_true rfl | exact Nat.le_of_eq w7.symm | exact Nat.le_of_eq w8.symm | apply And.intro)), congrArg (fun x => D.tup [(true, Cs.es x), (true, Cs.es _)]) (tk7 _)⟩
 exact absurd hc (by decide)
theorem zPq (l : List Tok) (ho : zAW l) (n : Nat) (s : Spot) (h1 : zAc l s zGx = true -> Clb l 7 ⟨s.p + 1, s.e⟩ (zAd l n 7 ⟨s.p + 1, s.e⟩)) (h2 : FnG Tryz.prog 71 gZ [.agg (.es (eSp l s))] (zIo l (zA3 l (zAd l n 0) s))) : FnG Tryz.prog 30 (gZ) [.agg (.es (eSp l s)), .one (.e (eI 7))] (zIo l (zAd l (n + 1) 7 s)) := by
 refine zG 99 Tryz.func30 fun X hnt => ?_
 have hm := ho.1
 repeat' first | refine zx ?_ | fail
 refine zc (fun hc => ?_) fun hc => ?_
 ·exact absurd hc (by decide)
 repeat' first | refine zx ?_ | fail
 refine zc (fun hc => ?_) fun hc => ?_
 ·have hsn := zAT l s [45] zGx [] zP4
  cases hs : zAc l s zGx with
  | true =>
   have hE : zAd l (n + 1) 7 s = (.mk 3 zBD [] [(zAd l n 7 ⟨s.p + 1, s.e⟩).1], (zAd l n 7 ⟨s.p + 1, s.e⟩).2) := by
    rw [zAd]
    simp [hs, zA6 hs]
   have hz := h1 hs
   have hp := zWH l hm s
   unfold Pst at hp
   unfold Clb at hz
   rw [zA6 hs] at hp
   rw [hE]
   generalize zAd l n 7 ⟨s.p + 1, s.e⟩ = r at *
   obtain ⟨e1, s1⟩ := r
   have w7 : (Cs.es (eEx e1)).len = 7 := by rw [zAp]; rfl
   have w8 : (Cs.es (List.take 7 (List.drop 0 (eEx e1)))).len = 7 := by rw [tk7]; exact w7
   rw [hs] at hsn
   refine zV hsn ?_
   refine zc (fun hc => ?_) fun hc => ?_
   ·repeat' apply zn
    refine zAa (zzx hnt rfl ?_ (callV rfl rfl rfl rfl rfl rfl rfl hnt rfl (hp) (zzx hnt rfl ?_ (callV rfl rfl rfl rfl rfl rfl rfl hnt rfl (hz) (zzx hnt rfl ?_ (Lex.nil _)))))) ?_
    ·exact zzt
    ·exact zzt
    ·exact zzt
    refine zxa ?_
    refine zAq (zDK 4 rfl rfl rfl) ?_
    exact zAb ⟨.inr rfl, _, _, rfl, (by (repeat' first | exact trivial | exact Nat.le_of_ble_eq_true rfl | exact Nat.le_of_eq w7.symm | exact Nat.le_of_eq w8.symm | apply And.intro)), congrArg (fun x => D.tup [(true, Cs.es x), (true, Cs.es _)]) (by rw [zBZ, tk7]; rfl)⟩
   exact absurd hc Bool.noConfusion
  | false =>
   have hE : zAd l (n + 1) 7 s = zA3 l (zAd l n 0) s := by
    rw [zAd]
    simp [hs]
   have hz := h2
   rw [hE]
   generalize zA3 l (zAd l n 0) s = r at *
   obtain ⟨e1, s1⟩ := r
   have w7 : (Cs.es (eEx e1)).len = 7 := by rw [zAp]; rfl
   have w8 : (Cs.es (List.take 7 (List.drop 0 (eEx e1)))).len = 7 := by rw [tk7]; exact w7
   rw [hs] at hsn
   refine zV hsn ?_
   refine zc (fun hc => ?_) fun hc => ?_
   ·exact absurd hc Bool.noConfusion
   refine zV hz ?_
   exact zAb ⟨.inr rfl, _, _, rfl, (by (repeat' first | exact trivial | exact Nat.le_of_ble_eq_true rfl | exact Nat.le_of_eq w7.symm | exact Nat.le_of_eq w8.symm | apply And.intro)), congrArg (fun x => D.tup [(true, Cs.es x), (true, Cs.es _)]) (tk7 _)⟩
 exact absurd hc (by decide)
structure ClS where
 e : Ex
 t : Spot
 k : Nat
theorem zPr (l : List Tok) (ho : zAW l) (n lv : Nat) (hv : lv = 0 \/ lv = 1 \/ lv = 3 \/ lv = 4 \/ lv = 5 \/ lv = 6) (s : Spot) (hsp : s.p <= l.length) (h1 : Clb l (lv + 1) s (zAd l n (lv + 1) s)) (h2 : s.e = 0 -> ∀ p, s.p < p -> p <= l.length -> Clb l (lv + 1) ⟨p, 0⟩ (zAd l n (lv + 1) ⟨p, 0⟩)) : FnG Tryz.prog 30 (gZ) [.agg (.es (eSp l s)), .one (.e (eI (lv : Int)))] (zIo l (zAd l (n + 1) lv s)) := by
 refine zG 99 Tryz.func30 fun X hnt => ?_
 have hm := ho.1
 have hm' : l.length <= 9223372036854775807 := Nat.le_trans hm (by decide)
 have hE : zAd l (n + 1) lv s = if lv = 3 /\ zAc l (zAd l n (lv + 1) s).2 zCS = true then (.mk 17 zBD [] [(zAd l n (lv + 1) s).1], zAk l (zAd l n (lv + 1) s).2 [zCS, zB8]) else lpF l (zAd l n (lv + 1)) lv (l.length + 1) (zAd l n (lv + 1) s).1 (zAd l n (lv + 1) s).2 := by
  rw [zAd, if_neg (by omega), if_neg (by omega)]
 have hW : E.v (.int .i64 (IntKind.i64.wrap ((lv : Int) + 1))) = eI ((lv + 1 : Nat) : Int) := by
  rw [zAf (by omega) (by omega)]
  rfl
 have hfw := zA4 l n (lv + 1)
 have hbd := fun (s : Spot) (h : s.e ≠ 0) => zCd (l := l) h n (lv + 1)
 unfold Clb at h1
 rw [<-hW] at h1
 rw [hE]
 clear hE
 have hfw1 := hfw s
 have hb1 := hbd s
 generalize zAd l n (lv + 1) = F at *
 generalize hr1 : F s = r1 at *
 generalize hwh : (if lv = 3 /\ zAc l r1.2 zCS = true then (Ex.mk 17 zBD [] [r1.1], zAk l r1.2 [zCS, zB8]) else lpF l F lv (l.length + 1) r1.1 r1.2) = wh at *
 obtain ⟨e1, s1⟩ := r1
 have hwh : (if lv = 3 /\ zAc l s1 zCS = true then (Ex.mk 17 zBD [] [e1], zAk l s1 [zCS, zB8]) else lpF l F lv (l.length + 1) e1 s1) = wh := hwh
 have hse : s1.e = 0 -> s.e = 0 := fun h => Classical.byContradiction fun hn => by
  have h3 := hb1 hn
  simp only [Prod.mk.injEq] at h3
  rw [h3.2] at h
  exact hn h
 have hp1 : s.p <= s1.p := hfw1.1
 have hp2 : s1.p <= l.length := hfw1.2 hsp
 have w7 : (Cs.es (eEx e1)).len = 7 := by rw [zAp]; rfl
 have w8 : (Cs.es (List.take 7 (List.drop 0 (eEx e1)))).len = 7 := by rw [tk7]; exact w7
 repeat' first | refine zx ?_ | fail
 refine zc (fun hc => ?_) fun hc => ?_
 ·have hc : (lv : Int) = 2 := of_decide_eq_true hc
  omega
 repeat' first | refine zx ?_ | fail
 refine zc (fun hc => ?_) fun hc => ?_
 ·have hc : (lv : Int) = 7 := of_decide_eq_true hc
  omega
 refine zV h1 ?_
 have hsn := zAT l s1 [73, 83] zCS [] (tk1 zWV (by decide))
 repeat' apply zn
 refine zAa (zzx hnt rfl ?_ (callVG rfl rfl rfl rfl rfl rfl hnt rfl (fun hq => ?_) rfl (fun hq => hsn) (zzx hnt rfl ?_ (Lex.nil _)))) ?_
 ·exact zza
 ·exact zza
 ·exact zza
 refine zc (fun hc => ?_) fun hc => ?_
 ·simp only [zz] at hc
  have hc : (lv : Int) = 3 /\ zAc l s1 zCS = true := hc
  rw [if_pos ⟨by omega, hc.2⟩] at hwh
  subst hwh
  have hp := zVS l hm s1
  unfold Pst at hp
  repeat' apply zn
  refine zAK (T := tab) tOk hnt zAO (zA2 (T := tab) rfl ?_ (zCI rfl rfl rfl rfl rfl rfl rfl rfl rfl (hp) (zA2 (T := tab) rfl ?_ (.nil _)))) (by first | decide +kernel | kernel_rfl) ?_
  ·exact zza
  ·exact zza
  refine zAq (zDK 4 rfl rfl rfl) ?_
  exact zAb ⟨.inr rfl, _, _, rfl, (by (repeat' first | exact trivial | exact Nat.le_of_ble_eq_true rfl | exact Nat.le_of_eq w7.symm | exact Nat.le_of_eq w8.symm | apply And.intro)), congrArg (fun x => D.tup [(true, Cs.es x), (true, Cs.es _)]) (by rw [zBZ, tk7]; rfl)⟩
 simp only [zz] at hc
 have hc : ¬ (lv : Int) = 3 \/ zAc l s1 zCS = false := by
  rcases hc with hc | hc
  ·exact .inl hc
  ·exact .inr (by simpa using hc)
 rw [if_neg (by
  rintro ⟨q1, q2⟩
  rcases hc with hc | hc
  ·omega
  ·rw [q2] at hc; exact Bool.noConfusion hc)] at hwh
 repeat' apply zn
 refine zAx (σ := ClS) (fun x => St.of [(1, .one (.e (eI (lv : Int)))), (4, .one (.ptr 4 0 0)), (5, .one (.ptr 5 0 0)), (10, .one (.ptr 10 0 0)), (11, .one (.ptr 11 0 0)), ((1000000 + 4), .one (.eptr mkE)), ((1000000 + 3), .one (.eptr spE)), ((1000000 + 5), .one (.eptr fsE)), ((1000000 + 6), .one (.eptr acE))] [(4, ⟨0, .box (.ds [.e (eI 0), .e (eI 0), .e (eI 0), .e (eQ 0), .e (eT []), .e (eT []), .nil]), 0⟩), (5, ⟨0, .box (.ds [.nil, .e (eI 0), .e (eI 0)]), 0⟩), (10, ⟨0, .box (.es (eEx x.e)), 0⟩), (11, ⟨0, .box (.es (eSp l x.t)), 0⟩)]) (fun x => s.p <= x.t.p /\ x.t.p <= l.length /\ (x.t.e = 0 -> s.e = 0) /\ l.length + 1 <= x.k + x.t.p /\ wh = lpF l F lv x.k x.e x.t) (fun x => x.k) (⟨e1, s1, l.length + 1⟩) (zAh (ad := []) ⟨zzl, zzl, zzl, zzl, zzl, zzl, zzl, zzl, zzl, trivial⟩ zm) ⟨hp1, hp2, hse, Nat.le_add_right _ _, hwh.symm⟩ ?_
 rintro ⟨e, t, k⟩ ⟨hj1, hj2, hj3, hj4, hj5⟩
 have hj1 : s.p <= t.p := hj1
 have hj2 : t.p <= l.length := hj2
 have hj3 : t.e = 0 -> s.e = 0 := hj3
 have hj4 : l.length + 1 <= k + t.p := hj4
 have hj5 : wh = lpF l F lv k e t := hj5
 obtain ⟨k1, rfl⟩ : ∃ k1, k = k1 + 1 := ⟨k - 1, by omega⟩
 repeat' first | refine zx ?_ | fail
 refine zc (fun hc => ?_) fun hc => ?_
 ·have hte : t.e = 0 := of_decide_eq_true hc
  have hop := zSw l t lv hv
  have hse := hj3 hte
  obtain ⟨p, z⟩ := t
  have hte : z = 0 := hte
  subst hte
  refine zV hop ?_
  rw [lpF, if_neg (fun h => h rfl)] at hj5
  generalize hat : zDc l ⟨p, 0⟩ lv = op at *
  repeat' first | refine zx ?_ | fail
  refine zc (fun hc => ?_) fun hc => ?_
  ·have hc : op = 0 := of_decide_eq_true hc
   rw [if_pos hc] at hj5
   rw [hj5]
   refine zAt ?_
   have w7 : (Cs.es (eEx e)).len = 7 := by rw [zAp]; rfl
   have w8 : (Cs.es (List.take 7 (List.drop 0 (eEx e)))).len = 7 := by rw [tk7]; exact w7
   refine zxa ?_
   exact zAb ⟨.inr rfl, _, _, rfl, (by (repeat' first | exact trivial | exact Nat.le_of_ble_eq_true rfl | exact Nat.le_of_eq w7.symm | exact Nat.le_of_eq w8.symm | apply And.intro)), congrArg (fun x => D.tup [(true, Cs.es x), (true, Cs.es _)]) (zTi _)⟩
  have hc : ¬ op = 0 := of_decide_eq_false hc
  rw [if_neg hc] at hj5
  have hlt : p < l.length := (zOz (l := l) (s := ⟨p, 0⟩) (lv := lv) (by rw [hat]; exact hc)).2
  have hz := h2 hse (p + 1) (by have : s.p <= p := hj1; omega) hlt
  have hfw2 := hfw ⟨p + 1, 0⟩
  have hb2 := hbd ⟨p + 1, 0⟩
  unfold Clb at hz
  rw [<-hW] at hz
  have hi := zM4 l 0 (p := p) (by omega)
  have hz : FnG Tryz.prog 30 gZ [.agg (.es [zFU l, E.v (.int .i64 (IntKind.i64.wrap (((p : Nat) : Int) + 1))), eI 0]), .one (.e (E.v (.int .i64 (IntKind.i64.wrap ((lv : Int) + 1)))))] (zIo l (F ⟨p + 1, 0⟩)) := by
   rw [hi]
   exact hz
  generalize hr2 : F ⟨p + 1, 0⟩ = r2 at *
  obtain ⟨e2, s2⟩ := r2
  have hj5 : wh = if lv = 3 then (.mk op zBD [] [e, e2], s2) else lpF l F lv k1 (.mk op zBD [] [e, e2]) s2 := hj5
  have v7 : (Cs.es (eEx e2)).len = 7 := by rw [zAp]; rfl
  have v8 : (Cs.es (List.take 7 (List.drop 0 (eEx e2)))).len = 7 := by rw [tk7]; exact v7
  have x7 : (Cs.es (eEx e)).len = 7 := by rw [zAp]; rfl
  repeat' first | refine zx ?_ | apply zn
  repeat' apply zn
  refine zAa (zzx hnt rfl ?_ (callV rfl rfl rfl rfl rfl rfl rfl hnt rfl (hz) (zzx hnt rfl ?_ (Lex.nil _)))) ?_
  ·exact zza
  ·exact zza
  refine zAq (s' := St.of [(1, .one (.e (eI (lv : Int)))), (4, .one (.ptr 4 0 0)), (5, .one (.ptr 5 0 0)), (10, .one (.ptr 10 0 0)), (11, .one (.ptr 11 0 0)), (12, .one (.e (eI op))), (13, .one (.ptr 13 0 0)), (14, .one (.ptr 14 0 0)), ((1000000 + 4), .one (.eptr mkE)), ((1000000 + 3), .one (.eptr spE)), ((1000000 + 5), .one (.eptr fsE)), ((1000000 + 6), .one (.eptr acE))] [(4, ⟨0, .box (.ds [.e (eI 0), .e (eI 0), .e (eI 0), .e (eQ 0), .e (eT []), .e (eT []), .nil]), 0⟩), (5, ⟨0, .box (.ds [.nil, .e (eI 0), .e (eI 0)]), 0⟩), (10, ⟨0, .box (.es [eI e.op, eI e.v.k, eI e.v.i, eQ e.v.b, eT e.v.t, eT e.n, .sl (zBv e.ar)]), 0⟩), (11, ⟨0, .box (.es (eSp l ⟨p + 1, 0⟩)), 0⟩), (13, ⟨0, .box (.es [eI e2.op, eI e2.v.k, eI e2.v.i, eQ e2.v.b, eT e2.v.t, eT e2.n, .sl (zBv e2.ar)]), 0⟩), (14, ⟨0, .box (.es (eSp l s2)), 0⟩)]) (zAh (ad := []) ⟨zzl, zzl, zzl, zzl, zzl, zzl, zzl, zzl, zzl, zzl, zzl, zzl, trivial⟩ (zAg rfl rfl ⟨rfl, rfl, rfl, rfl, rfl, rfl, trivial, trivial⟩ (zAg rfl rfl ⟨trivial, rfl, rfl, trivial⟩ (zAg rfl rfl (zAp e) (zAg rfl rfl hi (zAg rfl rfl (zAp e2) zm)))))) ?_
  refine zxa ?_
  refine zAq (zDK 10 rfl rfl rfl) ?_
  have hx : [eI op, eI 0, eI 0, eQ 0, eT [], eT [], .sl [[eI e.op, eI e.v.k, eI e.v.i, eQ e.v.b, eT e.v.t, eT e.n, .sl (zBv e.ar)], [eI e2.op, eI e2.v.k, eI e2.v.i, eQ e2.v.b, eT e2.v.t, eT e2.n, .sl (zBv e2.ar)]]] = eEx (.mk op zBD [] [e, e2]) := by
   rw [zBZ]
   show _ = [eI op, eI 0, eI 0, eQ 0, eT [], eT [], .sl [eEx e, eEx e2]]
   rw [zAp e, zAp e2]
  repeat' first | refine zx ?_ | fail
  refine zc (fun hc => ?_) fun hc => ?_
  ·have hc : (lv : Int) = 3 := of_decide_eq_true hc
   rw [if_pos (by omega)] at hj5
   subst hj5
   refine zAt ?_
   repeat' first | refine zx ?_ | apply zn
   exact zAb ⟨.inr rfl, _, _, rfl, zzp, congrArg (fun x => D.tup [(true, Cs.es x), (true, Cs.es _)]) hx⟩
  have hc : ¬ (lv : Int) = 3 := of_decide_eq_false hc
  rw [if_neg (by omega)] at hj5
  repeat' apply zn
  refine ⟨⟨.mk op zBD [] [e, e2], s2, k1⟩, ⟨by have := hfw2.1; show s.p <= s2.p; have : p + 1 <= s2.p := this; have : s.p <= p := hj1; omega, hfw2.2 hlt, fun _ => hse, by have := hfw2.1; have : p + 1 <= s2.p := this; show l.length + 1 <= k1 + s2.p; have : l.length + 1 <= k1 + 1 + p := hj4; omega, hj5⟩, Nat.lt_succ_self _, zAh (ad := []) ⟨zzl, zzl, zzl, zzl, zzl, zzl, zzl, zzl, zzl, trivial⟩ (zAg rfl rfl ⟨rfl, rfl, rfl, rfl, rfl, rfl, trivial, trivial⟩ (zAg rfl rfl ⟨trivial, rfl, rfl, trivial⟩ (zAg rfl rfl hx zm)))⟩
 have hc : ¬ t.e = 0 := of_decide_eq_false hc
 rw [zJT hc] at hj5
 rw [hj5]
 refine zAt ?_
 have w7 : (Cs.es (eEx e)).len = 7 := by rw [zAp]; rfl
 have w8 : (Cs.es (List.take 7 (List.drop 0 (eEx e)))).len = 7 := by rw [tk7]; exact w7
 refine zxa ?_
 exact zAb ⟨.inr rfl, _, _, rfl, (by (repeat' first | exact trivial | exact Nat.le_of_ble_eq_true rfl | exact Nat.le_of_eq w7.symm | exact Nat.le_of_eq w8.symm | apply And.intro)), congrArg (fun x => D.tup [(true, Cs.es x), (true, Cs.es _)]) (zTi _)⟩
def Mz (l : List Tok) (s : Spot) (lv : Nat) : Nat := (if s.e = 0 then (l.length - s.p) * 8 else 0) + (8 - lv)
theorem zOL {l : List Tok} {s : Spot} {t : Tok} (h : zAc l s t = true) {lv lv' n : Nat} (hn : Mz l s lv <= n + 1) (h7 : lv' <= 7) (hv : lv <= lv' + 1) : Mz l ⟨s.p + 1, s.e⟩ lv' <= n := by
 obtain ⟨h1, h2, _⟩ := zAw.1 h
 unfold Mz at *
 rw [if_pos h1] at *
 show (l.length - (s.p + 1)) * 8 + (8 - lv') <= n
 omega
theorem zKi (l : List Tok) (ho : zAW l) : ∀ (n lv : Nat) (s : Spot), lv <= 7 -> s.p <= l.length -> Mz l s lv <= n -> Clb l lv s (zAd l n lv s)
 | 0, lv, s, h7, _, hn => by unfold Mz at hn; omega
 | n + 1, lv, s, h7, hp, hn => by
  have ih := zKi l ho n
  by_cases h2 : lv = 2
  ·subst h2
   exact zPp l ho n s (fun hs => ih 2 _ (by omega) (zAw.1 hs).2.1 (zOL hs hn (by omega) (by omega))) (fun hs => ih 3 s (by omega) hp (by unfold Mz at *; omega))
  by_cases h77 : lv = 7
  ·subst h77
   refine zPq l ho n s (fun hs => ih 7 _ (by omega) (zAw.1 hs).2.1 (zOL hs hn (by omega) (by omega))) ?_
   refine zJY l ho s (zAd l n 0) (zA4 l n 0) fun he s' h1 h2 => ih 0 s' (by omega) h2 ?_
   unfold Mz at *
   rw [if_pos he] at hn
   split <;> omega
  refine zPr l ho n lv (by omega) s hp (ih (lv + 1) s (by omega) hp (by unfold Mz at *; omega)) fun he p h1 h2' => ih (lv + 1) ⟨p, 0⟩ (by omega) h2' ?_
  unfold Mz at *
  rw [if_pos he] at hn
  rw [if_pos rfl]
  show (l.length - p) * 8 + (8 - (lv + 1)) <= n
  omega
def zWQ (lv : Nat) : Nat := match lv with
 | 0 => 104
 | 1 => 112
 | 2 => 119
 | 3 => 123
 | 4 => 124
 | 5 => 126
 | 6 => 128
 | _ => 129
theorem zRA (l : List Tok) (ho : zAW l) : ∀ (n lv p : Nat), lv <= 7 -> p <= l.length -> (l.length - p) * 8 + (8 - lv) <= n -> Rds l (zWQ lv) (zAd l n lv) p
 | 0, lv, p, h7, _, hn => by omega
 | n + 1, lv, p, h7, hp, hn => by
  have ih := zRA l ho n
  rcases (by omega : lv = 0 \/ lv = 1 \/ lv = 2 \/ lv = 3 \/ lv = 4 \/ lv = 5 \/ lv = 6 \/ lv = 7) with rfl | rfl | rfl | rfl | rfl | rfl | rfl | rfl
  ·exact zUs l ho.1 n p hp fun q h1 h2 => ih 1 q (by omega) h2 (by omega)
  ·exact zUr l ho.1 n p hp fun q h1 h2 => ih 2 q (by omega) h2 (by omega)
  ·exact zUq l ho.1 n p hp (fun q h1 h2 => ih 2 q (by omega) h2 (by omega)) (ih 3 p (by omega) hp (by omega))
  ·exact zUp l ho.1 n p hp fun q h1 h2 => ih 4 q (by omega) h2 (by omega)
  ·exact zUo l ho.1 n p hp fun q h1 h2 => ih 5 q (by omega) h2 (by omega)
  ·exact zUn l ho.1 n p hp fun q h1 h2 => ih 6 q (by omega) h2 (by omega)
  ·exact zUm l ho.1 n p hp fun q h1 h2 => ih 7 q (by omega) h2 (by omega)
  ·exact zUl l ho.1 n p hp (fun q h1 h2 => ih 7 q (by omega) h2 (by omega)) (zQR l ho p hp (zAd l n 0) (fun s h => zCd h n 0) (zA4 l n 0) fun q h1 h2 => ih 0 q (by omega) h2 (by omega))
def rdF (l : List Tok) (fr : Int) : Ex × Int × Int × Int :=
 if fr < 0 \/ (l.length : Int) < fr then (ex0, 0, 0, 6)
 else if (zAd l (l.length * 8 + 8) 0 ⟨fr.toNat, 0⟩).2.e = 0 then ((zAd l (l.length * 8 + 8) 0 ⟨fr.toNat, 0⟩).1, ((zAd l (l.length * 8 + 8) 0 ⟨fr.toNat, 0⟩).2.p : Int), 0, 0)
 else (ex0, 0, ((zAd l (l.length * 8 + 8) 0 ⟨fr.toNat, 0⟩).2.p : Int), (zAd l (l.length * 8 + 8) 0 ⟨fr.toNat, 0⟩).2.e)
abbrev zWL (r : Ex × Int × Int × Int) : D := .tup [(true, .es (eEx r.1)), (false, .es [eI r.2.1]), (false, .es [eI r.2.2.1]), (false, .es [eI r.2.2.2])]
theorem zXf (e : Ex) : List.take 0 (eEx e) ++ List.take 7 (List.drop 0 (eEx e)) ++ List.drop (0 + 7) (eEx e) = eEx e := by rw [zAp]; rfl
theorem zTK : Tryz.prog.underlying 20 = some (.interface #[]) := by kernel_rfl
def msA (c4 : Blk) (a b c : Int) : List (Nat × Blk) := [(900000, c4), (900001, ⟨0, .box (.es [eI a]), 0⟩), (900002, ⟨0, .box (.es [eI b]), 0⟩), (900003, ⟨0, .box (.es [eI c]), 0⟩)]
abbrev arA : List D := [.one (.ptr 900000 0 0), .one (.ptr 900001 0 0), .one (.ptr 900002 0 0), .one (.ptr 900003 0 0)]
abbrev zeA : Blk := ⟨0, .box (.ds [.e (eI 0), .e (eI 0), .e (eI 0), .e (eQ 0), .e (eT []), .e (eT []), .nil]), 0⟩
theorem zSM (e : Ex) (a b c : Int) : zTu Tryz.prog 103 (msA ⟨0, .box (.es (eEx e)), 0⟩ a b c) arA .returning .returning (msA ⟨0, .box (.es (eEx e)), 0⟩ a b c) := by
 have w7 : (Cs.es (eEx e)).len = 7 := by rw [zAp]; rfl
 refine zEo (u := .returning) (t := 7) (t2 := 4) Tryz.func103 rfl rfl rfl rfl rfl rfl rfl rfl rfl rfl (by kernel_rfl) (by simp [Tryz.ntmps103]) (by rw [zAp]; rfl) (by rfl) rfl ?_
 intro X hX
 have hnt : X.nt = 23 := hX
 repeat' apply zn
 refine zAa (.cons (zEe tOk hnt rfl trivial) (.cons (zGh (v := .nilIface) rfl rfl rfl (by rw [hnt]; rfl) rfl rfl rfl zTK) (.nil _))) ?_
 refine zc (fun hc => ?_) fun hc => ?_
 ·exact absurd hc Bool.noConfusion
 repeat' apply zn
 exact ⟨.inl rfl, fun X => zle⟩
theorem zQe (s : Spot) : zTu Tryz.prog 103 (msA zeA 0 0 0) arA (.panicking (chS s)) (zFs (.panicking (chS s))).2 (msA zeA 0 (s.p : Int) s.e) := by
 refine zEo (u := .panicking (chS s)) (t := 7) (t2 := 4) Tryz.func103 rfl rfl rfl rfl rfl rfl rfl rfl rfl rfl (by kernel_rfl) (by simp [Tryz.ntmps103]) rfl rfl rfl ?_
 intro X hX
 have hnt : X.nt = 23 := hX
 repeat' apply zn
 refine zAa (.cons (zEe tOk hnt rfl trivial) (.cons (zGh (v := .iface 138 (.agg #[.int .i64 (s.p : Int), .int .i64 s.e])) rfl rfl rfl (by rw [hnt]; rfl) rfl rfl rfl zTK) (.nil _))) ?_
 refine zc (fun hc => ?_) fun hc => ?_
 ·repeat' first | refine zx ?_ | fail
  refine zc (fun hc => ?_) fun hc => ?_
  ·exact absurd hc Bool.noConfusion
  repeat' first | refine zx ?_ | apply zn
  exact ⟨.inl rfl, fun X => zle⟩
 exact absurd hc Bool.noConfusion
theorem zRb (l : List Tok) (ho : zAW l) (fr : Int) : FnG Tryz.prog 82 gK [.one (.e (zFU l)), .one (.e (eI fr))] (zWL (rdF l fr)) := by
 have h1 : (l.map zBO).length = l.length := List.length_map ..
 refine zNv (T := tab) tOk Tryz.func82 rfl (by kernel_rfl) (by simp [Tryz.ntmps82]) ?_
 intro X hX
 have hnt : X.nt = 30 := hX
 clear hX
 refine zx ?_
 refine zx ?_
 refine zc (fun hc => ?_) fun hc => ?_
 ·simp only [zz] at hc
  (try simp only [h1] at hc)
  (try simp only [zz] at hc)
  have hr : rdF l fr = (ex0, 0, 0, 6) := by
   unfold rdF
   rw [if_pos (by omega)]
  rw [hr]
  repeat' first | refine zx ?_ | apply zn
  exact zAb ⟨.inr rfl, _, _, rfl, (by repeat' first | exact trivial | exact Nat.le_of_ble_eq_true rfl | exact rfl | apply And.intro), congrArg (fun x => D.tup [(true, Cs.es x), (false, Cs.es _), (false, Cs.es _), (false, Cs.es _)]) (by rw [zAp]; rfl)⟩
 simp only [zz] at hc
 (try simp only [h1] at hc)
 (try simp only [zz] at hc)
 obtain ⟨p, rfl⟩ : ∃ p : Nat, fr = (p : Int) := ⟨fr.toNat, by omega⟩
 have hp : p <= l.length := by omega
 have hz := zRA l ho (l.length * 8 + 8) 0 p (by omega) hp (by omega)
 unfold Rds zWQ at hz
 generalize hw : rdF l (p : Int) = w at *
 unfold rdF at hw
 rw [if_neg (by omega), Int.toNat_natCast] at hw
 generalize zAd l (l.length * 8 + 8) 0 ⟨p, 0⟩ = r at *
 obtain ⟨e1, s1⟩ := r
 have w7 : (Cs.es (eEx e1)).len = 7 := by rw [zAp]; rfl
 have w8 : (Cs.es (List.take 7 (List.drop 0 (eEx e1)))).len = 7 := by rw [tk7]; exact w7
 repeat' apply zn
 refine zx ?_
 refine ⟨1, _, _, _, _, 103, [(4, 0, 0), (5, 0, 0), (6, 0, 0), (7, 0, 0)], zzx hnt rfl (by exact zzt) (Lex.nil _), rfl, rfl, rfl, rfl, rfl, rfl, rfl, rfl, rfl, rfl, ?_⟩
 intro X' hX'
 replace hnt : X'.nt = 30 := hX'.trans hnt
 refine zAq (s' := St.of [(4, .one (.ptr 4 0 0)), (5, .one (.ptr 5 0 0)), (6, .one (.ptr 6 0 0)), (7, .one (.ptr 7 0 0)), (8, .one (.ptr 21 0 0)), (900000, .one (.ptr 4 0 0)), (900001, .one (.ptr 5 0 0)), (900002, .one (.ptr 6 0 0)), (900003, .one (.ptr 7 0 0)), ((1000000 + 5), .one (.eptr fsE)), ((1000000 + 6), .one (.eptr acE))] [(4, zeA), (5, ⟨0, .box (.es [eI 0]), 0⟩), (6, ⟨0, .box (.es [eI 0]), 0⟩), (7, ⟨0, .box (.es [eI 0]), 0⟩), (21, ⟨0, .box (.es (eRd l p)), 0⟩)]) (zAh (ad := []) ⟨zzl, zzl, zzl, zzl, zzl, zzl, zzl, zzl, zzl, zzl, zzl, trivial⟩ zm) ?_
 by_cases he : s1.e = 0
 ·have hz := hz.1 he
  rw [if_pos he] at hw
  subst hw
  have hE := zAp e1
  repeat' apply zn
  refine zAa (zzx hnt rfl ?_ (zA9 (us := []) [(900000, 21)] [] [] rfl rfl rfl rfl (hz) zg (fun _ => rfl) rfl rfl hnt rfl rfl zzi zzi (zzx hnt rfl ?_ (Lex.nil _)))) ?_
  ·exact zza
  ·exact zza
  refine zAq (s' := St.of [(4, .one (.ptr 4 0 0)), (5, .one (.ptr 5 0 0)), (6, .one (.ptr 6 0 0)), (7, .one (.ptr 7 0 0)), (8, .one (.ptr 21 0 0)), (900000, .one (.ptr 4 0 0)), (900001, .one (.ptr 5 0 0)), (900002, .one (.ptr 6 0 0)), (900003, .one (.ptr 7 0 0))] [(4, ⟨0, .box (.es (eEx e1)), 0⟩), (5, ⟨0, .box (.es [eI 0]), 0⟩), (6, ⟨0, .box (.es [eI 0]), 0⟩), (7, ⟨0, .box (.es [eI 0]), 0⟩), (21, ⟨0, .box (.es (eRd l s1.p)), 0⟩)]) (zAh (ad := []) ⟨zzl, zzl, zzl, zzl, zzl, zzl, zzl, zzl, zzl, trivial⟩ zm) ?_
  refine zxa ?_
  refine zAq (s' := St.of [(4, .one (.ptr 4 0 0)), (5, .one (.ptr 5 0 0)), (6, .one (.ptr 6 0 0)), (7, .one (.ptr 7 0 0)), (8, .one (.ptr 21 0 0)), (900000, .one (.ptr 4 0 0)), (900001, .one (.ptr 5 0 0)), (900002, .one (.ptr 6 0 0)), (900003, .one (.ptr 7 0 0))] [(4, ⟨0, .box (.es (eEx e1)), 0⟩), (5, ⟨0, .box (.es [eI (s1.p : Int)]), 0⟩), (6, ⟨0, .box (.es [eI 0]), 0⟩), (7, ⟨0, .box (.es [eI 0]), 0⟩), (21, ⟨0, .box (.es (eRd l s1.p)), 0⟩)]) (zAh (ad := []) ⟨zzl, zzl, zzl, zzl, zzl, zzl, zzl, zzl, zzl, trivial⟩ (zAg rfl rfl (zXf e1) zm)) ?_
  exact zAb ⟨.inr (.inl rfl), _, msA ⟨0, .box (.es (eEx e1)), 0⟩ (s1.p : Int) 0 0, msA ⟨0, .box (.es (eEx e1)), 0⟩ (s1.p : Int) 0 0, arA, [(900000, 4), (900001, 5), (900002, 6), (900003, 7)], [], zSM e1 (s1.p : Int) 0 0, rfl, (by repeat' first | exact .nil | refine .lent rfl rfl rfl ?_), rfl, ⟨rfl, rfl, rfl, rfl, trivial⟩, ⟨rfl, rfl, rfl, rfl, trivial⟩, _, _, rfl, (by (repeat' first | exact trivial | exact Nat.le_of_ble_eq_true rfl | exact rfl | exact Nat.le_of_eq w7.symm | apply And.intro)), congrArg (fun x => D.tup [(true, Cs.es x), (false, Cs.es _), (false, Cs.es _), (false, Cs.es _)]) (tk7 _)⟩
 ·have hz := hz.2 he
  rw [if_neg he] at hw
  subst hw
  refine zP 1 [(900000, 21)] [] [] hz fun _ => ?_
  exact ⟨.inr (.inr ⟨_, rfl⟩), _, msA zeA 0 0 0, msA zeA 0 (s1.p : Int) s1.e, arA, [(900000, 4), (900001, 5), (900002, 6), (900003, 7)], [], zQe s1, rfl, (by repeat' first | exact .nil | refine .lent rfl rfl rfl ?_), rfl, ⟨rfl, rfl, rfl, rfl, trivial⟩, ⟨rfl, rfl, rfl, rfl, trivial⟩, _, _, rfl, (by (repeat' first | exact trivial | exact Nat.le_of_ble_eq_true rfl | exact rfl | apply And.intro)), congrArg (fun x => D.tup [(true, Cs.es x), (false, Cs.es _), (false, Cs.es _), (false, Cs.es _)]) (by rw [zAp]; rfl)⟩
def zCH (l : List Tok) : Prop := zAW l /\ ∀ t ∈ l, -9223372036854775808 <= t.i /\ t.i <= 9223372036854775807
theorem zCH.at {l : List Tok} (h : zCH l) {i : Nat} (hi : i < l.length) : -9223372036854775808 <= (l.getD i zBj).i /\ (l.getD i zBj).i <= 9223372036854775807 := by
 rw [List.getD_eq_getElem?_getD, List.getElem?_eq_getElem hi]
 exact h.2 _ (List.getElem_mem hi)
theorem zHW {k i : Int} {b : BitVec 64} {t : Byt} (h1 : 0 <= k /\ k <= 20) (h2 : -9223372036854775808 <= i /\ i <= 9223372036854775807) (h3 : t.length <= maxLen) : Val.fit ⟨k, i, b, t⟩ :=
 ⟨⟨⟨by show _ <= k; omega, by show k <= _; omega⟩, h2⟩, h3⟩
theorem zSS : zBD.fit := zHW ⟨by decide, by decide⟩ ⟨by decide, by decide⟩ (Nat.zero_le _)
theorem zOG {op : Int} {v : Val} {n : Byt} {ar : List Ex} (h1 : 0 <= op /\ op <= 20) (h2 : v.fit) (h3 : n.length <= maxLen) (h4 : ar.length <= 2) (h5 : zNy ar) : zDe (.mk op v n ar) := by
 rw [zDe]
 exact ⟨⟨by omega, by omega⟩, h2, h3, Nat.le_trans h4 (by decide), h5⟩
theorem zHM {v : Val} (h : v.fit) : zDe (zEi v) := zOG ⟨by decide, by decide⟩ h (Nat.zero_le _) (Nat.zero_le _) trivial
theorem zL7 {op : Int} {e : Ex} (h1 : 0 <= op /\ op <= 20) (h : zDe e) : zDe (.mk op zBD [] [e]) := zOG h1 zSS (Nat.zero_le _) (Nat.le_of_ble_eq_true rfl) ⟨h, trivial⟩
theorem zOF {op : Int} {e f : Ex} (h1 : 0 <= op /\ op <= 20) (h : zDe e) (g : zDe f) : zDe (.mk op zBD [] [e, f]) := zOG h1 zSS (Nat.zero_le _) (Nat.le_of_ble_eq_true rfl) ⟨h, g, trivial⟩
theorem zHN : zDe ex0 := zOG ⟨by decide, by decide⟩ zSS (Nat.zero_le _) (Nat.zero_le _) trivial
theorem zL6 (l : List Tok) (s : Spot) (lv : Nat) : 0 <= zDc l s lv /\ zDc l s lv <= 20 := by
 unfold zDc
 cases hf : (zDJ lv).find? fun op => zAc l s (mkS op) with
 | none => exact ⟨by decide, by decide⟩
 | some o =>
  have := List.mem_of_find?_eq_some hf
  show 0 <= o /\ o <= 20
  unfold zDJ at this
  split at this <;> simp at this <;> omega
theorem zUt {l : List Tok} {nx : Spot -> Ex × Spot} (hn : ∀ s, zDe (nx s).1) {lv : Nat} : ∀ (k : Nat) (e : Ex) (t : Spot), zDe e -> zDe (lpF l nx lv k e t).1
 | 0, e, t, h => h
 | k + 1, e, t, h => by
  unfold lpF
  split
  ·exact h
  ·split
   ·exact h
   ·split
    ·exact zOF (zL6 l t lv) h (hn _)
    ·exact zUt hn k _ _ (zOF (zL6 l t lv) h (hn _))
theorem zO1 {l : List Tok} (hl : zCH l) {c0 : Spot -> Ex × Spot} (hc : ∀ s, zDe (c0 s).1) (s : Spot) : zDe (zA3 l c0 s).1 := by
 unfold zA3
 split
 ·exact zHM zSS
 split
 ·exact zHM (zHW ⟨by decide, by decide⟩ ⟨by decide, by decide⟩ (Nat.zero_le _))
 split
 ·exact zHM (zHW ⟨by decide, by decide⟩ ⟨by decide, by decide⟩ (Nat.zero_le _))
 split
 ·exact hc _
 split
 ·exact zL7 ⟨by decide, by decide⟩ (hc _)
 split
 ·exact zOF ⟨by decide, by decide⟩ (hc _) (hc _)
 split
 ·rename_i h
  have hlt := (zCj (l := l) (s := s) (by rw [h]; decide)).2.1
  exact zOG ⟨by decide, by decide⟩ zSS (hl.1.at hlt) (Nat.zero_le _) trivial
 split
 ·rename_i h
  have hlt := (zCj (l := l) (s := s) (by rw [h]; decide)).2.1
  exact zHM (zHW ⟨by decide, by decide⟩ (hl.at hlt) (Nat.zero_le _))
 split
 ·exact zHM (zHW ⟨by decide, by decide⟩ ⟨by decide, by decide⟩ (Nat.zero_le _))
 split
 ·rename_i h
  have hlt := (zCj (l := l) (s := s) (by rw [h]; decide)).2.1
  exact zHM (zHW ⟨by decide, by decide⟩ ⟨by decide, by decide⟩ (hl.1.at hlt))
 exact zHN
theorem zMD {l : List Tok} (hl : zCH l) : ∀ (n lv : Nat) (s : Spot), zDe (zAd l n lv s).1
 | 0, _, _ => zHN
 | n + 1, lv, s => by
  have ih := zMD hl n
  rw [zAd]
  split
  ·split
   ·exact zL7 ⟨by decide, by decide⟩ (ih _ _)
   ·exact ih _ _
  ·split
   ·split
    ·exact zL7 ⟨by decide, by decide⟩ (ih _ _)
    ·exact zO1 hl (ih 0) s
   ·split
    ·exact zL7 ⟨by decide, by decide⟩ (ih _ _)
    ·exact zUt (ih _) _ _ _ (ih _ _)
end Go.Proofs.YtcdifgacoleckaaGreatDoor
namespace Go.Proofs.YtcdifgacoleckaaGreatDoor
open Go.ChangeShapes Go.WideShapes Go.ChangeAt Go.RowKit Go.Deep Go.Proofs.YtcdifgacoleckaaGreatDoor.Ab
theorem zSY : Enc (zD7 zTp) (fun l => [E.sl ((l.map tOf).map zBO)]) :=
 (zPa zUZ).of fun {_ _ _ x} _ => by rw [List.map_map]; rfl
theorem zUQ {w : World} {S : Nat -> Prop} {cs : List Value} {x : Int × ByteArray × Int × Int × Unit} (h : zTp.rel w S cs x) : (tOf x).t.length <= maxLen /\ -9223372036854775808 <= (tOf x).i /\ (tOf x).i <= 9223372036854775807 := by
 have hl := zUE h
 obtain ⟨_, _, rfl, _, _, _, rfl, _, _, _, rfl, ⟨_, h3⟩, _⟩ := h
 exact ⟨hl, zTG h3⟩
theorem zSR {w : World} {S : Nat -> Prop} {cs : List Value} {l : List (Int × ByteArray × Int × Int × Unit)} (h : (zD7 zTp).rel w S cs l) : zCH (l.map tOf) := by
 have key : ∀ t ∈ l.map tOf, t.t.length <= maxLen /\ -9223372036854775808 <= t.i /\ t.i <= 9223372036854775807 := by
  intro t ht
  obtain ⟨y, hy, rfl⟩ := List.mem_map.1 ht
  exact zOa zUQ h y hy
 exact ⟨⟨by rw [List.length_map]; exact zN9 h, fun t ht => (key t ht).1⟩, fun t ht => (key t ht).2⟩
end Go.Proofs.YtcdifgacoleckaaGreatDoor
namespace Go.Proofs.YtcdifgacoleckaaGreatDoor
open Go Go.RowKit Go.Proofs.YtcdifgacoleckaaGreatDoor.Ab
set_option maxRecDepth 100000
set_option maxHeartbeats 4000000
def usE (u : Nat -> Value) : List E := [.v (u 2), .v (u 3), .v (u 4), .v (u 5), .v (u 6), .v (u 7), .v (u 8), .v (u 9), .v (u 10), .v (u 11), .v (u 12), .v (u 13), .v (u 14), .v (u 15), .v (u 16), .v (u 17), .v (u 18), .v (u 19), .v (u 20), .v (u 21), .v (u 22), .v (u 23), .v (u 24), .v (u 25), .v (u 26), .v (u 27), .v (u 28), .v (u 29), .v (u 30)]
def bxT (l : List Tok) (p : Nat) (u : Nat -> Value) : List E := zFU l :: eI (p : Int) :: usE u
def mk2 : List Bool := [false, false, true, true, true, true, true, true, true, true, true, true, true, true, true, true, true, true, true, true, true, true, true, true, true, true, true, true, true, true, true]
abbrev bQ (l : List Tok) (p : Nat) (u : Nat -> Value) : List (Nat × Blk) := zDF (bxT l p u)
def chT (s : Spot) : List PanicEntry := [{ v := .iface 60 (.agg #[.int .i64 (s.p : Int), .int .i64 s.e]), recovered := false }]
theorem zAv {s : St} {c : Cs} (h1 : s.tm 900000 = .one (.ptr 900000 0 0)) (h2 : s.mem 900000 = some ⟨0, .box c, 0⟩) (h3 : c.d0.length = 31) : ∀ y ∈ [(900000, 31)], s.tm y.1 = .one (.ptr y.1 0 0) /\ ∃ c, s.mem y.1 = some ⟨0, .box c, 0⟩ /\ c.d0.length = y.2 := fun y hy => by
 rw [List.mem_singleton.1 hy]
 exact ⟨h1, c, h2, h3⟩
theorem zJ8 (l : List Tok) (p : Nat) (u : Nat -> Value) : zEU Tryz.prog [(900000, 31)] 17 [] (bQ l p u) [ptS] (False) (.tup []) (bQ l p u) (chT (zBQ l ⟨p, 0⟩)) := by
 refine zFX 24 Tryz.func17 fun X hnt => ?_
 have h1 : ((bxT l p u).getD (0 + 0) E.dflt).xs.length = l.length := List.length_map ..
 have h2 : ((bxT l p u).getD (0 + 1) E.dflt).int = (p : Int) := rfl
 have hg : p < l.length -> ((bxT l p u).getD (0 + 0) E.dflt).xs.getD ((bxT l p u).getD (0 + 1) E.dflt).int.toNat [] = zBO (l.getD p zBj) := fun h => zDQ l h
 repeat' first | refine zx ?_ | fail
 refine zc (fun hc => ?_) fun hc => ?_
 ·simp only [zz] at hc
  (try simp only [h1, h2] at hc)
  (try simp only [zz] at hc)
  have hb : zBQ l ⟨p, 0⟩ = ⟨p, 4⟩ := by
   unfold zBQ
   rw [if_pos rfl, if_pos (by show l.length <= p; omega)]
  rw [hb]
  repeat' apply zn
  refine zAE 6 (zzx hnt rfl ?_ (Lex.nil _)) (zJG rfl rfl rfl rfl) (fun _ => ?_)
  ·exact zzt
  exact ⟨fun h => h.elim, fun _ => ⟨rfl, zAv rfl rfl rfl⟩⟩
 simp only [zz] at hc
 (try simp only [h1, h2] at hc)
 (try simp only [zz] at hc)
 have hb : zBQ l ⟨p, 0⟩ = ⟨p, 3⟩ := by
  unfold zBQ
  rw [if_pos rfl, if_neg (by show ¬ l.length <= p; omega)]
 rw [hb]
 repeat' apply zn
 refine zAE 6 (zzx hnt rfl ?_ (Lex.nil _)) (zJG rfl rfl rfl rfl) (fun _ => ?_)
 ·exact zzt
 exact ⟨fun h => h.elim, fun _ => ⟨rfl, zAv rfl rfl rfl⟩⟩
theorem zU9 (l : List Tok) (u : Nat -> Value) {p : Nat} (h : p < 9223372036854775807) : zFU l :: E.v (.int .i64 (IntKind.i64.wrap (((p : Nat) : Int) + 1))) :: usE u = bxT l (p + 1) u := by
 rw [zAf (by omega) (by omega)]
 rfl
theorem zOd {l : List Tok} {p : Nat} {t : Tok} (h : p < l.length) : zAc l ⟨p, 0⟩ t = decide (l.getD p zBj = t) := by
 unfold zAc
 rw [decide_eq_decide]
 exact ⟨fun h => h.2.2, fun k => ⟨rfl, h, k⟩⟩
theorem zQd {l : List Tok} {p : Nat} {t : Tok} (h : ¬ p < l.length) : zAc l ⟨p, 0⟩ t = false := by
 unfold zAc
 exact decide_eq_false fun k => h k.2.1
theorem zCg (l : List Tok) (hm : l.length <= maxLen) (p : Nat) (u : Nat -> Value) (k : Int) (t : Byt) : FnH Tryz.prog 44 [] (bQ l p u) [ptS, .one (.e (eI k)), .one (.e (eT t))] (.v (.bool (zAc l ⟨p, 0⟩ ⟨k, t, 0, 0⟩))) (bQ l (if zAc l ⟨p, 0⟩ ⟨k, t, 0, 0⟩ = true then p + 1 else p) u) := by
 refine zFH 40 Tryz.func44 fun X hnt => ?_
 have h1 : ((bxT l p u).getD (0 + 0) E.dflt).xs.length = l.length := List.length_map ..
 have h2 : ((bxT l p u).getD (0 + 1) E.dflt).int = (p : Int) := rfl
 have hg : p < l.length -> ((bxT l p u).getD (0 + 0) E.dflt).xs.getD ((bxT l p u).getD (0 + 1) E.dflt).int.toNat [] = zBO (l.getD p zBj) := fun h => zDQ l h
 have hm' : l.length <= 9223372036854775807 := Nat.le_trans hm (by decide)
 refine zx ?_
 refine zy ?_ ?_
 ·(dsimp only [zBh]; (repeat' first | exact trivial | assumption | exact Nat.le_of_ble_eq_true rfl | apply And.intro | exact zAm _ _ ‹_› | exact zAi _ _ ‹_› | (intro hh_; have hg_ := hh_; (try simp only [zAr, zAs, zBm, zBp, Bool.and_eq_true, ne_eq, decide_eq_true_eq, decide_eq_false_iff_not] at hg_)) | intro _ | exact rfl | omega))
  all_goals (rw [hg (by omega)]; first | exact rfl | exact Nat.le_of_ble_eq_true rfl)
 by_cases hlt : p < l.length
 ·have e1 : decide ((((bxT l p u).getD (0 + 0) E.dflt).xs.length : Int) <= ((bxT l p u).getD (0 + 1) E.dflt).int) = false := decide_eq_false (by omega)
  rw [e1, hg hlt]
  refine zc (fun hc => ?_) fun hc => ?_
  ·have hc : (!(eqD tab 9 72 (.agg (.es (zBO (l.getD p zBj)))) (.agg (.es (zBO ⟨k, t, 0, 0⟩)))).2) = true := hc
   rw [zVw, <-zOd hlt] at hc
   have hc : zAc l ⟨p, 0⟩ ⟨k, t, 0, 0⟩ = false := by simpa using hc
   rw [hc, if_neg Bool.noConfusion]
   repeat' first | refine zx ?_ | apply zn
   exact zAb ⟨.inr rfl, _, _, _, rfl, zzp, rfl, fun X => zle⟩
  have hc : (!(eqD tab 9 72 (.agg (.es (zBO (l.getD p zBj)))) (.agg (.es (zBO ⟨k, t, 0, 0⟩)))).2) = false := hc
  rw [zVw, <-zOd hlt] at hc
  have hc : zAc l ⟨p, 0⟩ ⟨k, t, 0, 0⟩ = true := by simpa using hc
  rw [hc, if_pos rfl]
  repeat' first | refine zx ?_ | apply zn
  exact zAb ⟨.inr rfl, _, _, _, rfl, zzp, rfl, fun X => zAh (ad := []) zzi (zAg rfl rfl (zU9 l u (p := p) (by omega)) trivial)⟩
 have e1 : decide ((((bxT l p u).getD (0 + 0) E.dflt).xs.length : Int) <= ((bxT l p u).getD (0 + 1) E.dflt).int) = true := decide_eq_true (by omega)
 rw [e1]
 refine zc (fun hc => ?_) fun hc => ?_
 ·rw [zQd hlt, if_neg Bool.noConfusion]
  repeat' first | refine zx ?_ | apply zn
  exact zAb ⟨.inr rfl, _, _, _, rfl, zzp, rfl, fun X => zle⟩
 exact absurd (show true = false from hc) Bool.noConfusion
def zBl (l : List Tok) (s : Spot) (k : Int) : Tok × Spot := if zAU l s = k then (l.getD s.p zBj, ⟨s.p + 1, s.e⟩) else (zBj, zBQ l s)
theorem zFB {l : List Tok} {p : Nat} {k : Int} (h : p < l.length) (hk : k ≠ 0) : zAU l ⟨p, 0⟩ = k ↔ (l.getD p zBj).k = k /\ tkF (l.getD p zBj) = 0 := by
 unfold zAU
 by_cases h0 : tkF (l.getD p zBj) = 0
 ·rw [if_neg (by rintro (h1 | h1 | h1); exact h1 rfl; exact absurd h (Nat.not_lt.2 h1); exact h1 h0)]
  exact ⟨fun h => ⟨h, h0⟩, fun h => h.1⟩
 ·rw [if_pos (.inr (.inr h0))]
  exact ⟨fun h => absurd h.symm hk, fun h => absurd h.2 h0⟩
theorem zMj {l : List Tok} {p : Nat} (h : ¬ p < l.length) : zAU l ⟨p, 0⟩ = 0 := by
 unfold zAU
 rw [if_pos (.inr (.inl (Nat.not_lt.1 h)))]
theorem bY : ∀ a b : Bool, (bif (bif false then true else !a) then true else !b) = !(a && b) := by decide
theorem zXj (l : List Tok) (ho : zAW l) (p : Nat) (u : Nat -> Value) (k : Int) (hk0 : k ≠ 0) : zEU Tryz.prog [(900000, 31)] 46 (gK) (bQ l p u) [ptS, .one (.e (eI k))] ((zBl l ⟨p, 0⟩ k).2.e = 0) (.agg (.es (zBO (zBl l ⟨p, 0⟩ k).1))) (bQ l (zBl l ⟨p, 0⟩ k).2.p u) (chT (zBl l ⟨p, 0⟩ k).2) := by
 refine zFX 64 Tryz.func46 fun X hnt => ?_
 have h1 : ((bxT l p u).getD (0 + 0) E.dflt).xs.length = l.length := List.length_map ..
 have h2 : ((bxT l p u).getD (0 + 1) E.dflt).int = (p : Int) := rfl
 have hg : p < l.length -> ((bxT l p u).getD (0 + 0) E.dflt).xs.getD ((bxT l p u).getD (0 + 1) E.dflt).int.toNat [] = zBO (l.getD p zBj) := fun h => zDQ l h
 have hm' : l.length <= 9223372036854775807 := Nat.le_trans ho.1 (by decide)
 have hk : p < l.length -> FnG Tryz.prog 80 gK [.agg (.es (List.take 4 (List.drop 0 (((bxT l p u).getD (0 + 0) E.dflt).xs.getD ((bxT l p u).getD (0 + 1) E.dflt).int.toNat []))))] (.one (.e (eI (tkF (l.getD p zBj))))) := fun h => by
  rw [hg h]
  exact zCU _ (ho.at h)
 refine zx ?_
 repeat' apply zn
 refine zAK (T := tab) tOk hnt zAO (zA2 (T := tab) rfl ?_ (zI3 rfl rfl rfl rfl rfl rfl rfl rfl (fun hq => ?_) rfl (fun hq => (hk (by have hq2 := hq; simp only [zz] at hq2; (try simp only [h1, h2] at hq2); (try simp only [zz] at hq2); omega))) (zA2 (T := tab) rfl ?_ (.nil _)))) (by first | decide +kernel | kernel_rfl) ?_
 ·(dsimp only [zBh]; (repeat' first | exact trivial | assumption | exact Nat.le_of_ble_eq_true rfl | apply And.intro | exact zAm _ _ ‹_› | exact zAi _ _ ‹_› | (intro hh_; have hg_ := hh_; (try simp only [zAr, zAs, zBm, zBp, Bool.and_eq_true, ne_eq, decide_eq_true_eq, decide_eq_false_iff_not] at hg_)) | intro _ | exact rfl | omega))
  all_goals (rw [hg (by omega)]; first | exact rfl | exact Nat.le_of_ble_eq_true rfl)
 ·exact zza
 ·exact zza
 by_cases hlt : p < l.length
 ·have e1 : decide ((((bxT l p u).getD (0 + 0) E.dflt).xs.length : Int) <= ((bxT l p u).getD (0 + 1) E.dflt).int) = false := decide_eq_false (by omega)
  rw [e1, hg hlt]
  refine zc (fun hc => ?_) fun hc => ?_
  ·have hc := (bY (decide ((l.getD p zBj).k = k)) (decide (tkF (l.getD p zBj) = 0))).symm.trans hc
   have hk : ¬ zAU l ⟨p, 0⟩ = k := fun h => by
    have h := (zFB hlt hk0).1 h
    rw [decide_eq_true h.1, decide_eq_true h.2] at hc
    exact Bool.noConfusion hc
   unfold zBl
   rw [if_neg hk]
   refine zPQ 1 900000 mk2 (fun u => (zJ8 l p u).2 id) fun _ => ?_
   exact ⟨fun h => absurd h zCY, fun _ => ⟨rfl, zAv rfl rfl rfl⟩⟩
  have hc := (bY (decide ((l.getD p zBj).k = k)) (decide (tkF (l.getD p zBj) = 0))).symm.trans hc
  have hk : zAU l ⟨p, 0⟩ = k := (zFB hlt hk0).2 (by simpa using hc)
  unfold zBl
  rw [if_pos hk]
  refine zx ?_
  refine zAq (s' := St.of [(0, .one (.ptr 900000 0 0)), (4, .one (.ptr 4 0 0)), (900000, .one (.ptr 900000 0 0))] [(900000, ⟨0, .box (.es (bxT l (p + 1) u)), 0⟩), (4, ⟨0, .box (.es (zBO zBj)), 0⟩)]) (zAh (ad := []) ⟨zzl, zzl, zzl, trivial⟩ (zAg rfl rfl (zU9 l u (p := p) (by omega)) zm)) ?_
  have hi : (IntKind.i64.wrap (((bxT l (p + 1) u).getD (0 + 1) E.dflt).int - 1)) = (p : Int) := by
   show IntKind.i64.wrap (((p + 1 : Nat) : Int) - 1) = _
   rw [zAf (by omega) (by omega)]
   omega
  have hg2 : ((bxT l (p + 1) u).getD (0 + 0) E.dflt).xs.getD (IntKind.i64.wrap (((bxT l (p + 1) u).getD (0 + 1) E.dflt).int - 1)).toNat [] = zBO (l.getD p zBj) := by
   rw [hi]
   exact zDQ l hlt
  have h1' : ((bxT l (p + 1) u).getD (0 + 0) E.dflt).xs.length = l.length := List.length_map ..
  refine zy ?_ ?_
  ·rw [hg2, hi, h1']
   exact zza
  rw [hg2]
  exact zAb ⟨fun _ => ⟨.inr rfl, _, _, _, rfl, zzp, rfl, fun X => zle⟩, fun h => absurd rfl h⟩
 have e1 : decide ((((bxT l p u).getD (0 + 0) E.dflt).xs.length : Int) <= ((bxT l p u).getD (0 + 1) E.dflt).int) = true := decide_eq_true (by omega)
 rw [e1]
 refine zc (fun hc => ?_) fun hc => ?_
 ·unfold zBl
  rw [if_neg (by rw [zMj hlt]; exact fun h => hk0 h.symm)]
  refine zPQ 1 900000 mk2 (fun u => (zJ8 l p u).2 id) fun _ => ?_
  exact ⟨fun h => absurd h zCY, fun _ => ⟨rfl, zAv rfl rfl rfl⟩⟩
 exact absurd (show true = false from hc) Bool.noConfusion
theorem zVH (l : List Tok) (hm : l.length <= maxLen) (p : Nat) (u : Nat -> Value) (t : Byt) : zEU Tryz.prog [(900000, 31)] 47 [] (bQ l p u) [ptS, .one (.e (eT t))] ((zAk l ⟨p, 0⟩ [sgT t]).e = 0) (.tup []) (bQ l (zAk l ⟨p, 0⟩ [sgT t]).p u) (chT (zAk l ⟨p, 0⟩ [sgT t])) := by
 refine zFX 14 Tryz.func47 fun X hnt => ?_
 have hk := zCg l hm p u 6 t
 refine zH [(900000, 900000)] [] [] hk ?_
 cases hs : zAc l ⟨p, 0⟩ ⟨6, t, 0, 0⟩ with
 | true =>
  rw [zA6 (show zAc l ⟨p, 0⟩ (sgT t) = true from hs)]
  refine zc (fun hc => ?_) fun hc => ?_
  ·exact absurd hc Bool.noConfusion
  repeat' apply zn
  exact ⟨fun _ => ⟨.inl rfl, _, _, _, rfl, zzp, rfl, fun X => zle⟩, fun h => absurd rfl h⟩
 | false =>
  rw [zDB (show zAc l ⟨p, 0⟩ (sgT t) = false from hs)]
  refine zc (fun hc => ?_) fun hc => ?_
  ·refine zP 3 [(900000, 900000)] [] [] ((zJ8 l p u).2 id) fun _ => ?_
   exact ⟨fun h => absurd h zCY, fun _ => ⟨rfl, zAv rfl rfl rfl⟩⟩
  exact absurd hc Bool.noConfusion
theorem zTz (l : List Tok) (hm : l.length <= maxLen) (p : Nat) (u : Nat -> Value) (w : Byt) (hF : Fld w [w]) : zEU Tryz.prog [(900000, 31)] 45 ([(3, spE)]) (bQ l p u) [ptS, .one (.e (eT w))] ((zAk l ⟨p, 0⟩ [wdT w]).e = 0) (.tup []) (bQ l (zAk l ⟨p, 0⟩ [wdT w]).p u) (chT (zAk l ⟨p, 0⟩ [wdT w])) := by
 refine zFX 24 Tryz.func45 fun X hnt => ?_
 have lw : ([w].map fun t => [eT t]).length = 1 := rfl
 unfold Fld at hF
 refine zV hF ?_
 repeat' apply zn
 refine zAx (σ := Nat) (fun i => St.of [(0, .one (.ptr 900000 0 0)), (7, .one (.e (.sl ([w].map fun t => [eT t])))), (8, .one (.e (eI 1))), (9, .one (.e (eI (i : Int)))), (900000, .one (.ptr 900000 0 0))] [(900000, ⟨0, .box (.es (bxT l (p + i) u)), 0⟩)]) (fun i => i = 0 \/ (i = 1 /\ zAc l ⟨p, 0⟩ (wdT w) = true)) (fun i => 1 - i) (0) (zAh (ad := []) ⟨zzl, zzl, zzl, zzl, zzl, trivial⟩ zm) (.inl rfl) ?_
 rintro i hJ
 repeat' first | refine zx ?_ | fail
 refine zc (fun hc => ?_) fun hc => ?_
 ·simp only [zz] at hc
  (try simp only [lw] at hc)
  (try simp only [zz] at hc)
  have hi : i = 0 := by omega
  subst hi
  repeat' first | refine zx ?_ | apply zn
  have hk := zCg l hm p u 2 w
  repeat' apply zn
  refine zAa (zzx hnt rfl ?_ (zA9 (us := []) [(900000, 900000)] [] [] rfl rfl rfl rfl (hk) zg (fun _ => rfl) rfl rfl hnt rfl rfl zzi zzi (zzx hnt rfl ?_ (Lex.nil _)))) ?_
  ·exact zza
  ·exact zza
  cases hs : zAc l ⟨p, 0⟩ ⟨2, w, 0, 0⟩ with
  | true =>
   refine zc (fun hc => ?_) fun hc => ?_
   ·exact absurd hc Bool.noConfusion
   repeat' first | refine zx ?_ | apply zn
   refine ⟨0 + 1, .inr ⟨rfl, hs⟩, by decide, zAh (ad := []) ⟨zzl, zzl, zzl, zzl, zzl, trivial⟩ zm⟩
  | false =>
   rw [zDB (show zAc l ⟨p, 0⟩ (wdT w) = false from hs)]
   refine zc (fun hc => ?_) fun hc => ?_
   ·refine zP 3 [(900000, 900000)] [] [] ((zJ8 l p u).2 id) fun _ => ?_
    exact ⟨fun h => absurd h zCY, fun _ => ⟨rfl, zAv rfl rfl rfl⟩⟩
   exact absurd hc Bool.noConfusion
 simp only [zz] at hc
 (try simp only [lw] at hc)
 (try simp only [zz] at hc)
 have hs : zAc l ⟨p, 0⟩ (wdT w) = true := by
  rcases hJ with h | ⟨_, h⟩
  ·omega
  ·exact h
 have hi : i = 1 := by rcases hJ with h | ⟨h, _⟩ <;> omega
 subst hi
 rw [zA6 hs]
 refine zAt ?_
 repeat' apply zn
 exact ⟨fun _ => ⟨.inl rfl, _, _, _, rfl, zzp, rfl, fun X => zle⟩, fun h => absurd rfl h⟩
def xpF (l : List Tok) (s : Spot) : Ex × Spot := zAd l (l.length * 8 + 8) 0 s
theorem zJf (l : List Tok) : Fwd l (xpF l) := zA4 l _ 0
theorem zTy {l : List Tok} {s : Spot} (h : s.e ≠ 0) : xpF l s = (ex0, s) := zCd h _ _
theorem zT1 {l : List Tok} {p : Nat} (hp : p <= l.length) (h : (xpF l ⟨p, 0⟩).2.e = 0) : rdF l (p : Int) = ((xpF l ⟨p, 0⟩).1, ((xpF l ⟨p, 0⟩).2.p : Int), 0, 0) := by
 unfold rdF
 rw [if_neg (by omega), Int.toNat_natCast, if_pos (show (zAd l (l.length * 8 + 8) 0 ⟨p, 0⟩).2.e = 0 from h)]
 rfl
theorem zVM {l : List Tok} {p : Nat} (hp : p <= l.length) (h : ¬ (xpF l ⟨p, 0⟩).2.e = 0) : rdF l (p : Int) = (ex0, 0, ((xpF l ⟨p, 0⟩).2.p : Int), (xpF l ⟨p, 0⟩).2.e) := by
 unfold rdF
 rw [if_neg (by omega), Int.toNat_natCast, if_neg (show ¬ (zAd l (l.length * 8 + 8) 0 ⟨p, 0⟩).2.e = 0 from h)]
 rfl
theorem zUV (l : List Tok) (ho : zAW l) (p : Nat) (u : Nat -> Value) (hp : p <= l.length) : zEU Tryz.prog [(900000, 31)] 53 (gK) (bQ l p u) [ptS] ((xpF l ⟨p, 0⟩).2.e = 0) (.agg (.es (eEx (xpF l ⟨p, 0⟩).1))) (bQ l (xpF l ⟨p, 0⟩).2.p u) (chT (xpF l ⟨p, 0⟩).2) := by
 refine zFX 35 Tryz.func53 fun X hnt => ?_
 have ha := zRb l ho (p : Int)
 by_cases h : (xpF l ⟨p, 0⟩).2.e = 0
 ·rw [zT1 hp h] at ha
  generalize (xpF l ⟨p, 0⟩).1 = x at *
  obtain ⟨o, v, n, r⟩ := x
  unfold zWL at ha
  rw [zBZ] at ha ⊢
  refine zx ?_
  refine zVD ha ?_
  repeat' first | refine zx ?_ | fail
  refine zc (fun hc => ?_) fun hc => ?_
  ·exact absurd (show (!decide ((0 : Int) = 0)) = true from hc) (by decide)
  repeat' first | refine zx ?_ | apply zn
  exact zAb ⟨fun _ => ⟨.inr rfl, _, _, _, rfl, zzp, rfl, fun X => zle⟩, fun hh => absurd h hh⟩
 rw [zVM hp h] at ha
 refine zx ?_
 refine zVD ha ?_
 repeat' first | refine zx ?_ | fail
 refine zc (fun hc => ?_) fun hc => ?_
 ·repeat' apply zn
  refine zAE 4 (zzx hnt rfl ?_ (Lex.nil _)) (zJG rfl rfl rfl rfl) (fun _ => ?_)
  ·exact zzt
  exact ⟨fun hh => absurd hh h, fun _ => ⟨rfl, zAv rfl rfl rfl⟩⟩
 exact absurd hc (by simp [h])
theorem zOr {l : List Tok} {p : Nat} {t : Tok} (hs : zAc l ⟨p, 0⟩ t = true) : zAk l ⟨p, 0⟩ [t] = ⟨p + 1, 0⟩ := zA6 hs
def zMV : Tok := wdT [87, 72, 69, 82, 69]
def whF (l : List Tok) (s : Spot) : Ex × Spot := if zAc l s zMV = true then xpF l (zAk l s [zMV]) else (ex0, s)
theorem zNW (l : List Tok) (ho : zAW l) (p : Nat) (u : Nat -> Value) (hp : p <= l.length) : zEU Tryz.prog [(900000, 31)] 54 (gK) (bQ l p u) [ptS] ((whF l ⟨p, 0⟩).2.e = 0) (.agg (.es (eEx (whF l ⟨p, 0⟩).1))) (bQ l (whF l ⟨p, 0⟩).2.p u) (chT (whF l ⟨p, 0⟩).2) := by
 refine zFX 10 Tryz.func54 fun X hnt => ?_
 have hk := zCg l ho.1 p u 2 [87, 72, 69, 82, 69]
 unfold whF
 refine zx ?_
 refine zH [(900000, 900000)] [] [] hk ?_
 cases hs : zAc l ⟨p, 0⟩ ⟨2, [87, 72, 69, 82, 69], 0, 0⟩ with
 | true =>
  have hlt := (zAw.1 hs).2.1
  rw [zOr (show zAc l ⟨p, 0⟩ zMV = true from hs), if_pos (show zAc l ⟨p, 0⟩ zMV = true from hs)]
  have he := zUV l ho (p + 1) u hlt
  refine zc (fun hc => ?_) fun hc => ?_
  ·by_cases h : (xpF l ⟨p + 1, 0⟩).2.e = 0
   ·have he := he.1 h
    generalize (xpF l ⟨p + 1, 0⟩).1 = x at *
    obtain ⟨o, v, n, r⟩ := x
    rw [zBZ] at he ⊢
    refine zH [(900000, 900000)] [] [] he ?_
    exact zAb ⟨fun _ => ⟨.inr rfl, _, _, _, rfl, zzp, rfl, fun X => zle⟩, fun hh => absurd h hh⟩
   refine zP 1 [(900000, 900000)] [] [] (he.2 h) fun _ => ?_
   exact ⟨fun hh => absurd hh h, fun _ => ⟨rfl, zAv rfl rfl rfl⟩⟩
  exact absurd hc Bool.noConfusion
 | false =>
  rw [if_neg (show ¬ zAc l ⟨p, 0⟩ zMV = true by rw [show zAc l ⟨p, 0⟩ zMV = false from hs]; exact Bool.noConfusion)]
  refine zc (fun hc => ?_) fun hc => ?_
  ·exact absurd hc Bool.noConfusion
  repeat' first | refine zx ?_ | apply zn
  exact zAb ⟨fun _ => ⟨.inr rfl, _, _, _, rfl, zzp, rfl, fun X => zle⟩, fun hh => absurd rfl hh⟩
abbrev Srt := Int × Bool
abbrev KR := Int × Bool × Int
def s0 : Srt := (0, false)
def ftB (s : Srt) (k : Int) : Bool := bif decide (s.1 = k) then true else decide (s.1 = 0)
def wiF (a b : Srt) : Srt := (if a.1 = 0 then b.1 else a.1, a.2 || b.2)
def akF (k g : Int) : Bool -> List Srt -> KR
 | u, [] => (g, u, 0)
 | u, x :: r => if ftB x k = false then (0, false, 2) else akF k g (u || x.2) r
def twF (op : Int) (a b : Srt) : KR := if (bif !ftB a (wiF a b).1 then true else !ftB b (wiF a b).1) = true then (0, false, 2) else if op = 20 then ((wiF a b).1, (bif a.2 then b.2 else false), 0) else (1, (wiF a b).2, 0)
def joF (op : Int) (l : List Srt) : KR :=
 if op = 3 \/ op = 5 \/ op = 6 \/ op = 7 \/ op = 8 then akF 2 2 false l else if op = 4 \/ op = 15 \/ op = 16 then akF 1 1 false l else if op = 18 then akF 4 2 false l else if op = 19 then akF 4 4 false l else if op = 17 then (1, false, 0)
 else twF op (l.getD 0 s0) (l.getD 1 s0)
def zXu (l : List Colm) (s : Byt) : KR :=
 match l.find? (fun c => decide (c.n = s)) with
 | some c => (c.k, c.u, 0)
 | none => (0, false, 5)
mutual
def kdF (l : List Colm) : Ex -> KR
 | .mk op v n ar => if op = 1 then (v.k, decide (v.k = 0), 0) else if op = 2 then zXu l n else if (kdA l [] ar).1 ≠ 0 then (0, false, (kdA l [] ar).1) else joF op (kdA l [] ar).2
def kdA (l : List Colm) : List Srt -> List Ex -> Int × List Srt
 | ss, [] => (0, ss)
 | ss, a :: r => if (kdF l a).2.2 ≠ 0 then ((kdF l a).2.2, []) else kdA l (ss ++ [((kdF l a).1, (kdF l a).2.1)]) r
end
def noC (x : Ex) : Prop := x.op = 0 /\ x.n.length = 0 /\ zv x.v /\ x.ar.length = 0
instance (x : Ex) : Decidable (noC x) := inferInstanceAs (Decidable (_ /\ _ /\ _ /\ _))
theorem zE7 (x : Ex) : FnD Tryz.prog 42 [.agg (.es (eEx x))] (.v (.bool (decide (noC x)))) := by
 refine zD 23 Tryz.func42 fun X hnt => ?_
 have hml := zC8 x.ar
 have e1 := zSU x.v zBD
 rw [zAp]
 repeat' first | refine zx ?_ | apply zn
 repeat' apply zn
 refine zAb ⟨.inr rfl, _, _, rfl, trivial, ?_⟩
 show D.v (.bool (bif bif bif decide (x.op = 0) then zvB x.v else false then zA1 (zA5 x.n) ⟨#[]⟩ else false then decide (((zBv x.ar).length : Int) = 0) else false)) = D.v (.bool (decide (noC x)))
 rw [zAD, zHz, hml]
 congr 2
 refine zDE ?_
 simp only [zz]
 unfold noC
 constructor
 ·rintro ⟨⟨⟨k1, k2⟩, k3⟩, k4⟩
  exact ⟨k1, by first | exact k2 | exact k3, by first | exact k3 | exact k2, by omega⟩
 ·rintro ⟨k1, k2, k3, k4⟩
  exact ⟨⟨⟨k1, by first | exact k2 | exact k3⟩, by first | exact k3 | exact k2⟩, by omega⟩
structure Itm where
 a : Int
 x : Ex
structure QSo where
 i : Int
 d : Bool
structure Qry where
 is : List Itm
 w : Ex
 g : Byt
 ss : List QSo
 c : Bool
 m : Int
def zMk : Itm := ⟨0, ex0⟩
def zPN : QSo := ⟨0, false⟩
def zBP (t : Itm) : List E := [eI t.a, eI t.x.op, eI t.x.v.k, eI t.x.v.i, eQ t.x.v.b, eT t.x.v.t, eT t.x.n, .sl (zBv t.x.ar)]
def zC3 (s : QSo) : List E := [eI s.i, eBl s.d]
def zDL (q : Qry) : List E := [.sl (q.is.map zBP), eI q.w.op, eI q.w.v.k, eI q.w.v.i, eQ q.w.v.b, eT q.w.v.t, eT q.w.n, .sl (zBv q.w.ar), eT q.g, .sl (q.ss.map zC3), eBl q.c, eI q.m]
theorem itX (t : Itm) : List.take 7 (List.drop (0 + 1) (zBP t)) = eEx t.x := by rw [zAp]; rfl
theorem quW (q : Qry) : List.take 7 (List.drop (0 + 1) (zDL q)) = eEx q.w := by rw [zAp]; rfl
theorem zFT (l : List Itm) : (l.map zBP).length = l.length := List.length_map ..
theorem zGB (l : List QSo) : (l.map zC3).length = l.length := List.length_map ..
theorem zJW (l : List Itm) (i : Nat) (h : i < l.length) : (l.map zBP).getD i [] = zBP (l.getD i zMk) := by
 rw [List.getD_eq_getElem?_getD, List.getElem?_map, List.getElem?_eq_getElem h, List.getD_eq_getElem?_getD, List.getElem?_eq_getElem h]
 rfl
theorem zN7 (l : List QSo) (i : Nat) (h : i < l.length) : (l.map zC3).getD i [] = zC3 (l.getD i zPN) := by
 rw [List.getD_eq_getElem?_getD, List.getElem?_map, List.getElem?_eq_getElem h, List.getD_eq_getElem?_getD, List.getElem?_eq_getElem h]
 rfl
structure Qry.ok (q : Qry) : Prop where
 w : zDe q.w
 is : ∀ t ∈ q.is, zDe t.x
 li : q.is.length <= maxLen
 ls : q.ss.length <= maxLen
theorem zQA {α : Type} {l : List α} {i : Nat} {d : α} (h : i < l.length) : l.getD i d ∈ l := by
 rw [List.getD_eq_getElem?_getD, List.getElem?_eq_getElem h]
 exact List.getElem_mem h
end Go.Proofs.YtcdifgacoleckaaGreatDoor
