/- Part of the proof: steps of the program over abstract states. No condition. -/
import Derived.Test.YtcdifgacoleckaaGreatDoorG06
import Derived.Test.YtcdifgacoleckaaGreatDoorG13
import Derived.Test.YtcdifgacoleckaaGreatDoorG04
import Derived.LaidLaws
import Derived.Lib.LaidTab
import Derived.OpenShut
set_option linter.unusedVariables false
set_option linter.unusedSimpArgs false
namespace Go.Proofs.YtcdifgacoleckaaGreatDoor.Ab
open Go Go.RowKit
section
variable {P : Program} {T : Nat -> Option TI} {X : Ctx} {w : World}
theorem zQP (hT : TOk P T) {p : Rho} (hR : RM X p w) {t len id e a b : Nat} {z : List Value} {ti : TI} {ps : Array (Nat × Operand)} {o : Oper} {ρ : Operand -> Value} (ho : o.op = .buildSlice t len ps) (ht : T t = some ⟨a, b, .slice e, z⟩) (hti : T e = some ti) {vs : List (Nat × Value)} (hvs : ps.toList.map (fun q => (q.1, ρ q.2)) = vs)
  {zs : List Value} (hzs : ti.zero = zs) {out : List Value} (hf : Instr.fill (fun i => some (i * ti.size, ti.size)) ((Array.range (len * ti.size)).map fun q => zs.toArray[q % zs.toArray.size]!) vs = some out.toArray) {xs : List (List E)} (hxl : xs.length = len) (hxz : ∀ cs ∈ xs, cs.length = ti.size) (hrep : xs.flatten = out.map E.v) (hone : ∀ u ∈ out, u.oneCell' = true) (h0 : 0 < ti.size) (h1 : 0 < len) (h2 : len * ti.size <= 16777216) (h3 : len <= 16777216) :
  zJc P X p w o ρ ⟨True, .one (.own id (zDd p.mem id)), [(id, ⟨zDd p.mem id, .row ti.size xs, 0⟩)]⟩ := by
 have htik := hT _ _ hti
 have hu := zBI hT ht
 obtain ⟨zv, hz1, hz2⟩ := zD8 (w := w) htik
 have hzv : zv.cells = zs.toArray := by
  apply Array.ext'
  rw [hz2, hzs]
 have hmap : (ps.map fun (i, x) => (i, ρ x)).toList = vs := by rw [<-hvs]; simp
 have hpos : 0 < len * ti.size := Nat.mul_pos h1 h0
 have hrun : (execOp ρ o).run P w = .ok (.value (.slice (some ⟨w.heap.size, 0, none⟩) len len)) (w.alloc (.cells out.toArray e)) := by
  have hno : ¬ (len * ti.size > 2 ^ 24) := by omega
  have hb : (Instr.buildSlice t len (ps.map fun (i, x) => (i, ρ x))).run P w = .ok (.slice (some ⟨w.heap.size, 0, none⟩) len len) (w.alloc (.cells out.toArray e)) := by
   simp only [Instr.buildSlice, Sem.run_bind, run_underlying hu, Result.andThen_ok, htik.size, hno, if_false, if_neg (Nat.ne_of_gt hpos), hz1, hmap, Sem.run_pure, hzv]
   rw [hf]
   simp [newRow]
  simp only [execOp, ho, Sem.run_bind, hb, Result.andThen_ok]
  rfl
 have hol : out.length = len * ti.size := by
  have := congrArg List.length hrep
  rw [zAz xs hxz, hxl, List.length_map] at this
  exact this.symm
 obtain ⟨m, μ⟩ := p
 have ra := zDV (X := X) (p := ⟨m, μ⟩) hR (ob := out.toArray) (t := e) (lo := 0) (hi := 0) (id := id) (ver := zDd m id) (z := ti.size) (cap := len) (xs := xs) (pub := 0) (w.alloc (.cells out.toArray e)) rfl rfl rfl rfl (by omega) h0 hxz (fun b hb => zD0 (p := ⟨m, μ⟩) b hb) (Nat.zero_le _) (by rw [hxl]; exact Nat.le_refl _) (by simp only [maxLen]; omega) (by show len * ti.size <= out.toArray.size; simp [hol]) (vs := out) ⟨by rw [hrep]; simp, fun i x u hx hu => by
   rw [hrep] at hx
   simp only [List.map_map, List.getElem?_map, hu, Option.map_some, Option.some.injEq] at hx
   subst hx
   exact RepE.v _ (hone u (List.mem_of_getElem? hu))⟩ (fun i u hu => by simpa using hu)
 rw [hxl] at ra
 exact ⟨_, _, upd μ id (some w.heap.size), .inl hrun, ra⟩
theorem zSv (hT : TOk P T) {ops : Array Oper} {s : St} {o : Oper} {t len id e a b : Nat} {z : List Value} {ti : TI} {ps : Array (Nat × Operand)} (ho : o.op = .buildSlice t len ps) (hgd : zBT ops s o = .free) (ht : T t = some ⟨a, b, .slice e, z⟩) (hti : T e = some ti) {vs : List (Nat × Value)} (hvs : ∀ a : Act, ps.toList.map (fun q => (q.1, a.eval q.2)) = vs)
  {zs : List Value} (hzs : ti.zero = zs) {out : List Value} (hf : Instr.fill (fun i => some (i * ti.size, ti.size)) ((Array.range (len * ti.size)).map fun q => zs.toArray[q % zs.toArray.size]!) vs = some out.toArray) {xs : List (List E)} (hx : (Nat.beq xs.length len && (xs.all (fun cs => Nat.beq cs.length ti.size) && (out.all (·.oneCell') && (Nat.ble 1 ti.size && (Nat.ble 1 len && (Nat.ble (len * ti.size) 16777216 && Nat.ble len 16777216)))))) = true) (hrep : xs.flatten = out.map E.v) (hd : o.dst = some id) (hlt : Nat.blt id X.nt = true) :
  OpT P X ops o s (s.app o.dst (.one (.own id (zDd s.mem id))) [(id, ⟨zDd s.mem id, .row ti.size xs, 0⟩)]) := by
 simp only [Bool.and_eq_true] at hx
 obtain ⟨x1, x2, x3, x4, x5, x6, x7⟩ := hx
 intro Q a w ⟨μ, hM, hsz, hdf, hr⟩
 rw [if_pos (zCa hgd a)]
 exact zIF (ef := ⟨True, .one (.own id (zDd s.mem id)), [(id, ⟨zDd s.mem id, .row ti.size xs, 0⟩)]⟩) hr hsz hdf (by rw [hd]; exact hlt) (zQP hT hM ho ht hti (hvs a) hzs hf (Nat.eq_of_beq_eq_true x1) (fun cs hc => Nat.eq_of_beq_eq_true (List.all_eq_true.1 x2 cs hc)) hrep (fun u hu => List.all_eq_true.1 x3 u hu) (Nat.le_of_ble_eq_true x4) (Nat.le_of_ble_eq_true x5) (Nat.le_of_ble_eq_true x6) (Nat.le_of_ble_eq_true x7)) Q
theorem zXt (hT : TOk P T) {nt : Nat} {ops : Array Oper} {rest : List Oper} {tm : Nat -> D} {m : Mem} {o : Oper} {t len id e a b : Nat} {z : List Value} {ti : TI} {ps : Array (Nat × Operand)} {fps : List FP} {s'' : St} (ho : o.op = .buildSlice t len ps) (hgd : zBT ops ⟨tm, m⟩ o = .free) (ht : T t = some ⟨a, b, .slice e, z⟩) (hti : T e = some ti) {vs : List (Nat × Value)} (hvs : ∀ a : Act, ps.toList.map (fun q => (q.1, a.eval q.2)) = vs)
  {zs : List Value} (hzs : ti.zero = zs) {out : List Value} (hf : Instr.fill (fun i => some (i * ti.size, ti.size)) ((Array.range (len * ti.size)).map fun q => zs.toArray[q % zs.toArray.size]!) vs = some out.toArray) {xs : List (List E)} (hx : (Nat.beq xs.length len && (xs.all (fun cs => Nat.beq cs.length ti.size) && (out.all (·.oneCell') && (Nat.ble 1 ti.size && (Nat.ble 1 len && (Nat.ble (len * ti.size) 16777216 && Nat.ble len 16777216)))))) = true) (hrep : xs.flatten = out.map E.v) (hd : o.dst = some id) (hlt : Nat.blt id nt = true)
  {rd : List Nat} (hrd : (zLi (zKs ⟨tm, m⟩ o.op.operands.toList) fun rd => some rd) = some rd) {sz v : Nat} (hsz : ti.size = sz) (hv : zDd m id = v) (k : LexD P T nt ops rest ⟨upd tm id (.one (.own id v)), upd m id (some ⟨v, .row sz xs, 0⟩)⟩ fps s'') : LexD P T nt ops (o :: rest) ⟨tm, m⟩ ((id :: rd, [id, id + 2000000]) :: fps) s'' := by
 rw [zCV] at hrd
 cases hrd
 subst hsz hv
 have hdst : zFk o.dst = id := by rw [hd]; rfl
 refine .cons (d := .one (.own id (zDd m id))) (us := [(id, ⟨zDd m id, .row ti.size xs, 0⟩)]) ⟨.gen fun s' hS hF X hX => ?_, fun x hx k hk => zAG (List.mem_cons_of_mem _ (zCh x (by simpa using zBR hx) k hk)), by rw [hdst]; exact zAG (List.mem_cons_self ..), fun u hu => ?_, fun x hx => ?_, fun u hu => .inl ?_⟩ ?_
 ·have e : m id = s'.mem id := by have := hS.dst; rw [hdst] at this; exact this
  rw [show zDd m id = zDd s'.mem id from zBK e]
  exact zSv hT ho (by rw [<-zBL hS]; exact hgd) ht hti hvs hzs hf hx hrep hd (by rw [hX]; exact hlt)
 ·rw [List.mem_singleton.1 hu]; exact zAG (List.mem_cons_self ..)
 ·rw [ho] at hx; cases hx
 ·rw [List.mem_singleton.1 hu]; exact zAG (List.mem_cons_of_mem _ (List.mem_cons_self ..))
 ·rw [hd]; exact k
theorem LexD.app {nt : Nat} {ops : Array Oper} : ∀ {l1 l2 : List Oper} {s s1 s2 : St} {f1 f2 : List FP}, LexD P T nt ops l1 s f1 s1 -> LexD P T nt ops l2 s1 f2 s2 -> LexD P T nt ops (l1 ++ l2) s (f1 ++ f2) s2
 | _, _, _, _, _, _, _, .nil _, k => k
 | _, _, _, _, _, _, _, .cons h t, k => .cons h (LexD.app t k)
theorem zV9 {nt : Nat} {ops : Array Oper} (n : Nat) {l : List Oper} {tm : Nat -> D} {m : Mem} {ps : List Prop} {tm' : Nat -> D} {m' : Mem} {fps fps' : List FP} {s'' : St} (h : zKO T nt ops (l.take n) [] tm m = some ⟨ps, tm', m', [], fps⟩) (hp : zBh ps) (k : LexD P T nt ops (l.drop n) ⟨tm', m'⟩ fps' s'') : LexD P T nt ops l ⟨tm, m⟩ (fps ++ fps') s'' := by
 have h1 := (zIk (P := P) h).2 ⟨tm', m'⟩ [] hp (.nil _)
 rw [List.append_nil] at h1
 have := h1.app k
 rwa [List.take_append_drop] at this
theorem zPD {m : Mem} {ρ : Rn} {dom : Nat -> Bool} {d x : D} {ds az : List D} {us : zBa} (h : zF7 m d = some (x, [])) (k : ArgsH m ρ dom ds az us) : ArgsH m ρ dom (d :: ds) (x :: az) us := .data (u := []) h k
end
end Go.Proofs.YtcdifgacoleckaaGreatDoor.Ab
namespace Go.Proofs.YtcdifgacoleckaaGreatDoor
open Go Go.RowKit Go.Proofs.YtcdifgacoleckaaGreatDoor.Ab
set_option maxRecDepth 100000
set_option maxHeartbeats 4000000
def cwW : List Byt := [[], [67, 82, 69, 65, 84, 69], [73, 78, 83, 69, 82, 84], [85, 80, 68, 65, 84, 69], [68, 69, 76, 69, 84, 69], [83, 69, 76, 69, 67, 84], [71, 82, 65, 78, 84], [82, 69, 86, 79, 75, 69]]
theorem zWt (l : List Tok) (hm : l.length <= maxLen) : ∀ w ∈ cwW, w ≠ [] -> Wrd l w := fun w hw hn => by
 unfold cwW at hw
 simp only [List.mem_cons, List.not_mem_nil, or_false] at hw
 rcases hw with rfl | rfl | rfl | rfl | rfl | rfl | rfl | rfl
 ·exact absurd rfl hn
 ·exact zBe hm fcr rfl (by decide)
 ·exact zBe hm fis rfl (by decide)
 ·exact zBe hm fup rfl (by decide)
 ·exact zBe hm fdl rfl (by decide)
 ·exact zBe hm fsl rfl (by decide)
 ·exact zBe hm fgr rfl (by decide)
 ·exact zBe hm frv rfl (by decide)
theorem zFR (l : List Tok) (s : Spot) : ooF l s 0 cwW = if zAc l s zKF = true then (1, ⟨s.p + 1, s.e⟩) else if zAc l s zGy = true then (2, ⟨s.p + 1, s.e⟩) else if zAc l s zKx = true then (3, ⟨s.p + 1, s.e⟩) else if zAc l s zKE = true then (4, ⟨s.p + 1, s.e⟩) else if zAc l s zKy = true then (5, ⟨s.p + 1, s.e⟩) else if zAc l s zKC = true then (6, ⟨s.p + 1, s.e⟩) else if zAc l s zKz = true then (7, ⟨s.p + 1, s.e⟩) else (0, zBQ l s) := by
 unfold cwW
 rw [ooF, if_neg (fun h => h.1 rfl), ooF, ooF, ooF, ooF, ooF, ooF, ooF, ooF]
 simp only [ne_eq, reduceCtorEq, not_false_eq_true, true_and]
 rfl
def cwV : List (Nat × Value) := ((cwW.zipIdx).drop 1).map fun q => (q.2, .string (zA5 q.1))
def mdK (l : List Tok) (s : Spot) (c : Cmd) : List (Nat × Blk) := [(900000, ⟨0, .box (.ds (bdC c)), 0⟩), (900001, ⟨0, .row 3 (c.cs.map zCm), 0⟩), (900002, ⟨0, .row 4 (c.ro.map zBw), 0⟩), (900003, ⟨0, .row 8 (c.ss.map zCe), 0⟩), (900004, ⟨0, .row 8 (c.q.is.map zBP), 0⟩), (900005, ⟨0, .row 2 (c.q.ss.map zC3), 0⟩), (2, ⟨0, .box (.es (eSp l s)), 0⟩), (3, ⟨0, .box (.ds [.ptr 900000 0 0]), 0⟩), (4, ⟨0, .box (.ds [.nil, .e (eI 0), .e (eI 0)]), 0⟩)]
theorem zVP (l : List Tok) (hm : l.length <= maxLen) (s : Spot) : Pst l s [86, 65, 76, 85, 69, 83, 32, 40] [zDP, zBf] := zBr l hm s _ [[86, 65, 76, 85, 69, 83], [40]] fVb (zPM (tk1 zUL (by decide)) (tk1 zCb (by decide))) (by decide)
theorem zVO (l : List Tok) (hm : l.length <= maxLen) (s : Spot) : Pst l s [87, 73, 84, 72, 32, 79, 80, 84, 73, 79, 78] [zGw, zMX] := zBr l hm s _ [[87, 73, 84, 72], [79, 80, 84, 73, 79, 78]] fWo (zPM (tk1 fWi (by decide)) (tk1 zWT (by decide))) (by decide)
theorem zW5 (l : List Tok) (hm : l.length <= maxLen) : Wrd l [73, 78, 84, 79] := zBe hm zUN rfl (by decide)
theorem zW3 (l : List Tok) (hm : l.length <= maxLen) : Wrd l [83, 69, 84] := zBe hm zUM rfl (by decide)
theorem zW2 (l : List Tok) (hm : l.length <= maxLen) : Wrd l [84, 79] := zBe hm zWR rfl (by decide)
theorem zW0 (l : List Tok) (hm : l.length <= maxLen) : Wrd l [87, 73, 84, 72] := zBe hm fWi rfl (by decide)
theorem zV2 (l : List Tok) (c : Cmd) (s : Spot) : ofF l true c s = zHw l c s := if_pos rfl
theorem psW {l : List Tok} {w : Byt} (hw : Wrd l w) (s : Spot) : FnG Tryz.prog 23 [(3, spE)] [.agg (.es (eSp l s)), .one (.e (eT w))] (.agg (.es (eSp l (zAk l s [wdT w])))) := hw.ps s
theorem psS {l : List Tok} {x : Byt} {ts : List Tok} {s : Spot} (h : Pst l s x ts) : FnG Tryz.prog 23 [(3, spE)] [.agg (.es (eSp l s)), .one (.e (eT x))] (.agg (.es (eSp l (zAk l s ts)))) := h
theorem zQ3 (l : List Tok) (ho : zAW l) (hL : l.length <= 100) (s : Spot) (c : Cmd) (hp : s.p <= l.length) (hz : Szs c 10) (hk0 : c.k = 0) : FnH Tryz.prog 9 (gDc) (mdC c) [.agg (.es (eSp l s)), ptS] (.agg (.es (eSp l (zHm l c s).2))) (mdC (zHm l c s).1) := by
 refine zFH 86 Tryz.func9 fun X hnt => ?_
 unfold zHm
 have h1 := zOD l ho s cwW (by decide) (zWt l ho.1)
 generalize hA : ooF l s 0 cwW = A at h1
 obtain ⟨k1, s1⟩ := A
 dsimp only at h1
 repeat' first | refine zx ?_ | apply zn
 repeat' apply zn
 refine zAK (T := tab) tOk hnt zAO (zV9 (T := tab) 2 rfl ?_ (zXt (T := tab) tOk rfl rfl rfl rfl (vs := cwV) (fun _ => rfl) rfl (out := cwW.map fun t => .string (zA5 t)) (by kernel_rfl) (xs := cwW.map fun t => [eT t]) (by kernel_rfl) rfl rfl rfl rfl rfl rfl (zS4 rfl rfl rfl rfl rfl rfl rfl rfl rfl rfl h1 (zA2 (T := tab) rfl ?_ (.nil _))))) (by first | decide +kernel | kernel_rfl) ?_
 ·exact zzt
 ·exact zzt
 clear h1
 refine zAq (s' := St.of [(2, .one (.ptr 2 0 0)), (3, .one (.ptr 3 0 0)), (4, .one (.ptr 4 0 0)), (900000, .one (.ptr 900000 0 0)) , (1000000, .one (.eptr kwE)), (1000001, .one (.eptr agE)), (1000002, .one (.eptr rgE)), (1000003, .one (.eptr spE)), (1000004, .one (.eptr mkE)), (1000005, .one (.eptr fsE)), (1000006, .one (.eptr acE))] (mdK l s1 ({ c with k := k1 }))) zle ?_
 by_cases hs : zAc l s zKF = true
 ·rw [if_pos hs]
  have hoo : ooF l s 0 cwW = (1, ⟨s.p + 1, s.e⟩) := by rw [zFR]; simp only [if_true, hs, if_true, if_false, Bool.false_eq_true]
  obtain ⟨hk, h2⟩ := Prod.mk.inj (hA.symm.trans hoo)
  have hf : (⟨s.p + 1, s.e⟩ : Spot).p <= l.length := (zAH hs).2 hp
  have hz : Szs { c with k := 1 } 10 := ⟨hz.cs, hz.ro, hz.ss, hz.is, hz.so⟩
  subst hk
  subst h2
  repeat' (first | apply zn | refine zrt ?_ | refine zAj rfl (fun hc => ?_) (fun hc => absurd (show true = false from hc) Bool.noConfusion) | refine zAj rfl (fun hc => absurd (show false = true from hc) Bool.noConfusion) (fun hc => ?_) | refine zAj rfl (fun hc => ?_) (fun hc => absurd hc (by decide +kernel)) | refine zAj rfl (fun hc => absurd hc (by decide +kernel)) (fun hc => ?_))
  generalize (⟨s.p + 1, s.e⟩ : Spot) = s1 at hf ⊢
  clear hoo hs hp hA
  generalize hcc : ({ c with k := 1 } : Cmd) = c1 at hz ⊢
  clear hcc
  have h2 := zQ1 l ho hL s1 c1 hf (hz.mono (by omega))
  refine zH [(900000, 900000)] kr kr h2 ?_
  exact zAb ⟨.inr rfl, _, _, _, rfl, zzp, rfl, fun X => zle⟩
 rw [if_neg hs]
 have n1 : zAc l s zKF = false := by simpa using hs
 clear hs
 by_cases hs : zAc l s zGy = true
 ·rw [if_pos hs]
  have hoo : ooF l s 0 cwW = (2, ⟨s.p + 1, s.e⟩) := by rw [zFR]; simp only [n1, hs, if_true, if_false, Bool.false_eq_true]
  obtain ⟨hk, h2⟩ := Prod.mk.inj (hA.symm.trans hoo)
  have hf : (⟨s.p + 1, s.e⟩ : Spot).p <= l.length := (zAH hs).2 hp
  have hz : Szs { c with k := 2 } 10 := ⟨hz.cs, hz.ro, hz.ss, hz.is, hz.so⟩
  subst hk
  subst h2
  repeat' (first | apply zn | refine zrt ?_ | refine zAj rfl (fun hc => ?_) (fun hc => absurd (show true = false from hc) Bool.noConfusion) | refine zAj rfl (fun hc => absurd (show false = true from hc) Bool.noConfusion) (fun hc => ?_) | refine zAj rfl (fun hc => ?_) (fun hc => absurd hc (by decide +kernel)) | refine zAj rfl (fun hc => absurd hc (by decide +kernel)) (fun hc => ?_))
  generalize (⟨s.p + 1, s.e⟩ : Spot) = s1 at hf ⊢
  clear hoo hs hp hA
  generalize hcc : ({ c with k := 2 } : Cmd) = c1 at hz ⊢
  clear hcc
  have h2 := psW (zW5 l ho.1) s1
  have hf2 := (zAo l [zFr] s1).2 hf
  change FnG _ _ _ _ (.agg (.es (eSp l (zAk l s1 [zFr])))) at h2
  unfold zWf
  rcases hA : zAk l s1 [zFr] with ⟨p2, e2⟩
  rw [zBt (show zDf l zFr c1 s1 = (c1, ⟨p2, e2⟩) by unfold zDf; rw [hA])]
  rw [hA] at h2 hf2
  clear hA
  generalize (⟨p2, e2⟩ : Spot) = s2 at h2 hf2 ⊢
  have h3 := zIZ l ho s2 c1
  rw [<-zV2] at h3
  have hf3 := (zDZ l true c1 s2).2 hf2
  have hz2 := zJP l true hz s2
  rcases hA : ofF l true c1 s2 with ⟨c3, s3⟩
  rw [hA] at h3 hf3 hz2
  rw [zBt hA]
  clear hA
  dsimp only at h3 hf3 hz2
  have h4 := psS (zVP l ho.1 s3)
  rw [show [zDP, zBf] = [zDP] ++ [zBf] from rfl, zGg] at h4
  have hf4 := (zAo l [zDP] s3).2 hf3
  rcases hA : zAk l s3 [zDP] with ⟨p4, e4⟩
  rw [zBt (show zDf l zDP c3 s3 = (c3, ⟨p4, e4⟩) by unfold zDf; rw [hA])]
  rw [hA] at h4 hf4
  clear hA
  generalize (⟨p4, e4⟩ : Spot) = s4 at h4 hf4 ⊢
  have hf5 := (zAo l [zBf] s4).2 hf4
  rcases hA : zAk l s4 [zBf] with ⟨p5, e5⟩
  rw [zBt (show zDf l zBf c3 s4 = (c3, ⟨p5, e5⟩) by unfold zDf; rw [hA])]
  rw [hA] at h4 hf5
  clear hA
  generalize (⟨p5, e5⟩ : Spot) = s5 at h4 hf5 ⊢
  have h5 := zOQ l ho hL s5 c3 26 0 rfl (zIb l) (zTJ l ho) (zJk l) (zNZ l) hf5 (hz2.mono (by omega))
  rcases hA : zBk l (zIb l) (l.length + 1) c3 s5 with ⟨c6, s6⟩
  rw [hA] at h5
  rw [zBt hA]
  clear hA
  dsimp only at h5
  have h6 := psS (zRC l ho.1 s6)
  unfold zDf
  dsimp only
  repeat' apply zn
  refine zAK (T := tab) tOk hnt zAO (zA2 (T := tab) rfl ?_ (zCI rfl rfl rfl rfl rfl rfl rfl rfl rfl (h2) (zA2 (T := tab) rfl ?_ (zMF [(900000, 900000)] kr kr rfl rfl rfl rfl (h3) zg rfl rfl rfl rfl rfl zzi zzi (zA2 (T := tab) rfl ?_ (zCI rfl rfl rfl rfl rfl rfl rfl rfl rfl (h4) (zA2 (T := tab) rfl ?_ (zMF [(900000, 900000), (900006, 3)] kr kr rfl rfl rfl rfl (h5) zg rfl rfl rfl rfl rfl zzi zzi (zA2 (T := tab) rfl ?_ (zCI rfl rfl rfl rfl rfl rfl rfl rfl rfl (h6) (zA2 (T := tab) rfl ?_ (.nil _)))))))))))) (by first | decide +kernel | kernel_rfl) ?_
  ·exact zzt
  ·exact zzt
  ·exact zzt
  ·exact zzt
  ·exact zzt
  ·exact zzt
  exact zAb ⟨.inr rfl, _, _, _, rfl, zzp, rfl, fun X => zle⟩
 rw [if_neg hs]
 have n2 : zAc l s zGy = false := by simpa using hs
 clear hs
 by_cases hs : zAc l s zKx = true
 ·rw [if_pos hs]
  have hoo : ooF l s 0 cwW = (3, ⟨s.p + 1, s.e⟩) := by rw [zFR]; simp only [n1, n2, hs, if_true, if_false, Bool.false_eq_true]
  obtain ⟨hk, h2⟩ := Prod.mk.inj (hA.symm.trans hoo)
  have hf : (⟨s.p + 1, s.e⟩ : Spot).p <= l.length := (zAH hs).2 hp
  have hz : Szs { c with k := 3 } 10 := ⟨hz.cs, hz.ro, hz.ss, hz.is, hz.so⟩
  subst hk
  subst h2
  repeat' (first | apply zn | refine zrt ?_ | refine zAj rfl (fun hc => ?_) (fun hc => absurd (show true = false from hc) Bool.noConfusion) | refine zAj rfl (fun hc => absurd (show false = true from hc) Bool.noConfusion) (fun hc => ?_) | refine zAj rfl (fun hc => ?_) (fun hc => absurd hc (by decide +kernel)) | refine zAj rfl (fun hc => absurd hc (by decide +kernel)) (fun hc => ?_))
  generalize (⟨s.p + 1, s.e⟩ : Spot) = s1 at hf ⊢
  clear hoo hs hp hA
  generalize hcc : ({ c with k := 3 } : Cmd) = c1 at hz ⊢
  clear hcc
  unfold zVC
  have h3 := zIZ l ho s1 c1
  rw [<-zV2] at h3
  have hf3 := (zDZ l true c1 s1).2 hf
  have hz2 := zJP l true hz s1
  rcases hA : ofF l true c1 s1 with ⟨c3, s3⟩
  rw [hA] at h3 hf3 hz2
  rw [zBt hA]
  clear hA
  dsimp only at h3 hf3 hz2
  have h4 := psW (zW3 l ho.1) s3
  change FnG _ _ _ _ (.agg (.es (eSp l (zAk l s3 [zEY])))) at h4
  have hf4 := (zAo l [zEY] s3).2 hf3
  rcases hA : zAk l s3 [zEY] with ⟨p4, e4⟩
  rw [zBt (show zDf l zEY c3 s3 = (c3, ⟨p4, e4⟩) by unfold zDf; rw [hA])]
  rw [hA] at h4 hf4
  clear hA
  generalize (⟨p4, e4⟩ : Spot) = s4 at h4 hf4 ⊢
  have h5 := zOQ l ho hL s4 c3 28 0 rfl (zHG l) (zTX l ho) (zHF l) (zOc l) hf4 (hz2.mono (by omega))
  have hf5 := (zCD (zHF l) (l.length + 1) c3 s4).2 hf4
  rcases hA : zBk l (zHG l) (l.length + 1) c3 s4 with ⟨c5, s5⟩
  rw [hA] at h5 hf5
  rw [zBt hA]
  clear hA
  dsimp only at h5 hf5
  repeat' apply zn
  refine zAa (zzx hnt rfl ?_ (zA9 (us := []) [(900000, 900000)] kr kr rfl rfl rfl rfl (h3) zg (fun _ => rfl) rfl rfl hnt rfl rfl zzi zzi (zzx hnt rfl ?_ (callV rfl rfl rfl rfl rfl rfl rfl hnt rfl (h4) (zzx hnt rfl ?_ (zA9 (us := []) [(900000, 900000), (900006, 3)] kr kr rfl rfl rfl rfl (h5) zg (fun _ => rfl) rfl rfl hnt rfl rfl zzi zzi (zzx hnt rfl ?_ (Lex.nil _)))))))) ?_
  ·exact zzt
  ·exact zzt
  ·exact zzt
  ·exact zzt
  refine zAq (s' := St.of [(2, .one (.ptr 2 0 0)), (3, .one (.ptr 3 0 0)), (4, .one (.ptr 4 0 0)), (900000, .one (.ptr 900000 0 0)) , (1000000, .one (.eptr kwE)), (1000001, .one (.eptr agE)), (1000002, .one (.eptr rgE)), (1000003, .one (.eptr spE)), (1000004, .one (.eptr mkE)), (1000005, .one (.eptr fsE)), (1000006, .one (.eptr acE))] (mdK l s5 c5)) zle ?_
  have h6 := zS0 l ho s5 hf5
  unfold zIo at h6
  unfold zMS
  dsimp only
  rcases hA : whF l s5 with ⟨x, s9⟩
  rw [hA] at h6
  clear hA
  dsimp only at h6 ⊢
  rw [zAp x] at h6
  refine zVD h6 ?_
  repeat' first | refine zx ?_ | apply zn
  exact zAb ⟨.inr rfl, _, _, _, rfl, zzp, rfl, fun X => zle⟩
 rw [if_neg hs]
 have n3 : zAc l s zKx = false := by simpa using hs
 clear hs
 by_cases hs : zAc l s zKE = true
 ·rw [if_pos hs]
  have hoo : ooF l s 0 cwW = (4, ⟨s.p + 1, s.e⟩) := by rw [zFR]; simp only [n1, n2, n3, hs, if_true, if_false, Bool.false_eq_true]
  obtain ⟨hk, h2⟩ := Prod.mk.inj (hA.symm.trans hoo)
  have hf : (⟨s.p + 1, s.e⟩ : Spot).p <= l.length := (zAH hs).2 hp
  have hz : Szs { c with k := 4 } 10 := ⟨hz.cs, hz.ro, hz.ss, hz.is, hz.so⟩
  subst hk
  subst h2
  repeat' (first | apply zn | refine zrt ?_ | refine zAj rfl (fun hc => ?_) (fun hc => absurd (show true = false from hc) Bool.noConfusion) | refine zAj rfl (fun hc => absurd (show false = true from hc) Bool.noConfusion) (fun hc => ?_) | refine zAj rfl (fun hc => ?_) (fun hc => absurd hc (by decide +kernel)) | refine zAj rfl (fun hc => absurd hc (by decide +kernel)) (fun hc => ?_))
  generalize (⟨s.p + 1, s.e⟩ : Spot) = s1 at hf ⊢
  clear hoo hs hp hA
  generalize hcc : ({ c with k := 4 } : Cmd) = c1 at hz ⊢
  clear hcc
  have h2 := psW (zVB l ho.1) s1
  have hf2 := (zAo l [zB3] s1).2 hf
  change FnG _ _ _ _ (.agg (.es (eSp l (zAk l s1 [zB3])))) at h2
  unfold zWr
  rcases hA : zAk l s1 [zB3] with ⟨p2, e2⟩
  rw [zBt (show zDf l zB3 c1 s1 = (c1, ⟨p2, e2⟩) by unfold zDf; rw [hA])]
  rw [hA] at h2 hf2
  clear hA
  generalize (⟨p2, e2⟩ : Spot) = s2 at h2 hf2 ⊢
  have h3 := zIZ l ho s2 c1
  rw [<-zV2] at h3
  have hf3 := (zDZ l true c1 s2).2 hf2
  rcases hA : ofF l true c1 s2 with ⟨c3, s3⟩
  rw [hA] at h3 hf3
  rw [zBt hA]
  clear hA
  dsimp only at h3 hf3
  repeat' apply zn
  refine zAK (T := tab) tOk hnt zAO (zA2 (T := tab) rfl ?_ (zCI rfl rfl rfl rfl rfl rfl rfl rfl rfl (h2) (zA2 (T := tab) rfl ?_ (zMF [(900000, 900000)] kr kr rfl rfl rfl rfl (h3) zg rfl rfl rfl rfl rfl zzi zzi (zA2 (T := tab) rfl ?_ (.nil _)))))) (by first | decide +kernel | kernel_rfl) ?_
  ·exact zzt
  ·exact zzt
  ·exact zzt
  refine zAq (s' := St.of [(2, .one (.ptr 2 0 0)), (3, .one (.ptr 3 0 0)), (4, .one (.ptr 4 0 0)), (900000, .one (.ptr 900000 0 0)) , (1000000, .one (.eptr kwE)), (1000001, .one (.eptr agE)), (1000002, .one (.eptr rgE)), (1000003, .one (.eptr spE)), (1000004, .one (.eptr mkE)), (1000005, .one (.eptr fsE)), (1000006, .one (.eptr acE))] (mdK l s3 c3)) zle ?_
  have h6 := zS0 l ho s3 hf3
  unfold zIo at h6
  unfold zMS
  dsimp only
  rcases hA : whF l s3 with ⟨x, s9⟩
  rw [hA] at h6
  clear hA
  dsimp only at h6 ⊢
  rw [zAp x] at h6
  refine zVD h6 ?_
  repeat' first | refine zx ?_ | apply zn
  exact zAb ⟨.inr rfl, _, _, _, rfl, zzp, rfl, fun X => zle⟩
 rw [if_neg hs]
 have n4 : zAc l s zKE = false := by simpa using hs
 clear hs
 by_cases hs : zAc l s zKy = true
 ·rw [if_pos hs]
  have hoo : ooF l s 0 cwW = (5, ⟨s.p + 1, s.e⟩) := by rw [zFR]; simp only [n1, n2, n3, n4, hs, if_true, if_false, Bool.false_eq_true]
  obtain ⟨hk, h2⟩ := Prod.mk.inj (hA.symm.trans hoo)
  have hf : (⟨s.p + 1, s.e⟩ : Spot).p <= l.length := (zAH hs).2 hp
  have hz : Szs { c with k := 5 } 10 := ⟨hz.cs, hz.ro, hz.ss, hz.is, hz.so⟩
  subst hk
  subst h2
  repeat' (first | apply zn | refine zrt ?_ | refine zAj rfl (fun hc => ?_) (fun hc => absurd (show true = false from hc) Bool.noConfusion) | refine zAj rfl (fun hc => absurd (show false = true from hc) Bool.noConfusion) (fun hc => ?_) | refine zAj rfl (fun hc => ?_) (fun hc => absurd hc (by decide +kernel)) | refine zAj rfl (fun hc => absurd hc (by decide +kernel)) (fun hc => ?_))
  generalize (⟨s.p + 1, s.e⟩ : Spot) = s1 at hf ⊢
  clear hoo hs hp hA
  generalize hcc : ({ c with k := 5 } : Cmd) = c1 at hz ⊢
  clear hcc
  have h2 := zQc l ho hL s1 c1 hf hz
  refine zH [(900000, 900000)] kr kr h2 ?_
  exact zAb ⟨.inr rfl, _, _, _, rfl, zzp, rfl, fun X => zle⟩
 rw [if_neg hs]
 have n5 : zAc l s zKy = false := by simpa using hs
 clear hs
 unfold zLW
 by_cases hs : zAc l s zKC = true
 ·rw [if_pos hs]
  have hoo : ooF l s 0 cwW = (6, ⟨s.p + 1, s.e⟩) := by rw [zFR]; simp only [n1, n2, n3, n4, n5, hs, if_true, if_false, Bool.false_eq_true]
  obtain ⟨hk, h2⟩ := Prod.mk.inj (hA.symm.trans hoo)
  have hf : (⟨s.p + 1, s.e⟩ : Spot).p <= l.length := (zAH hs).2 hp
  have hz : Szs { c with k := 6 } 10 := ⟨hz.cs, hz.ro, hz.ss, hz.is, hz.so⟩
  subst hk
  subst h2
  repeat' (first | apply zn | refine zrt ?_ | refine zAj rfl (fun hc => ?_) (fun hc => absurd (show true = false from hc) Bool.noConfusion) | refine zAj rfl (fun hc => absurd (show false = true from hc) Bool.noConfusion) (fun hc => ?_) | refine zAj rfl (fun hc => ?_) (fun hc => absurd hc (by decide +kernel)) | refine zAj rfl (fun hc => absurd hc (by decide +kernel)) (fun hc => ?_))
  generalize (⟨s.p + 1, s.e⟩ : Spot) = s1 at hf ⊢
  clear hoo hs hp hA
  generalize hcc : ({ c with k := 6 } : Cmd) = c1 at hz ⊢
  clear hcc
  have h2 := zO3 l ho s1 c1 [84, 79] (zW2 l ho.1)
  change FnH _ _ _ _ _ (.agg (.es (eSp l (zID l c1 s1 zJm).2))) (mdC (zID l c1 s1 zJm).1) at h2
  rcases hA : zID l c1 s1 zJm with ⟨c3, s3⟩
  rw [hA] at h2
  clear hA
  dsimp only at h2
  refine zH [(900000, 900000)] kr kr h2 ?_
  refine zAq (s' := St.of [(2, .one (.ptr 2 0 0)), (3, .one (.ptr 3 0 0)), (4, .one (.ptr 4 0 0)), (900000, .one (.ptr 900000 0 0)) , (1000000, .one (.eptr kwE)), (1000001, .one (.eptr agE)), (1000002, .one (.eptr rgE)), (1000003, .one (.eptr spE)), (1000004, .one (.eptr mkE)), (1000005, .one (.eptr fsE)), (1000006, .one (.eptr acE))] (mdK l s3 c3)) zle ?_
  unfold zRF
  dsimp only
  have hsn := zAT l s3 [87, 73, 84, 72] zGw [] (zW0 l ho.1).tk
  refine zV hsn ?_
  cases hs : zAc l s3 zGw with
  | true =>
   rw [if_pos rfl]
   have h3 := psS (zVO l ho.1 s3)
   generalize zAk l s3 [zGw, zMX] = s4 at h3 ⊢
   refine zc (fun hc => ?_) fun hc => ?_
   rotate_left
   ·exact absurd hc Bool.noConfusion
   refine zVD h3 ?_
   repeat' first | refine zx ?_ | apply zn
   exact zAb ⟨.inr rfl, _, _, _, rfl, zzp, rfl, fun X => zle⟩
  | false =>
   rw [if_neg Bool.noConfusion]
   refine zc (fun hc => ?_) fun hc => ?_
   ·exact absurd hc Bool.noConfusion
   repeat' first | refine zx ?_ | apply zn
   exact zAb ⟨.inr rfl, _, _, _, rfl, zzp, rfl, fun X => zle⟩
 rw [if_neg hs]
 have n6 : zAc l s zKC = false := by simpa using hs
 clear hs
 by_cases hs : zAc l s zKz = true
 ·rw [if_pos hs]
  have hoo : ooF l s 0 cwW = (7, ⟨s.p + 1, s.e⟩) := by rw [zFR]; simp only [n1, n2, n3, n4, n5, n6, hs, if_true, if_false, Bool.false_eq_true]
  obtain ⟨hk, h2⟩ := Prod.mk.inj (hA.symm.trans hoo)
  have hf : (⟨s.p + 1, s.e⟩ : Spot).p <= l.length := (zAH hs).2 hp
  have hz : Szs { c with k := 7 } 10 := ⟨hz.cs, hz.ro, hz.ss, hz.is, hz.so⟩
  subst hk
  subst h2
  repeat' (first | apply zn | refine zrt ?_ | refine zAj rfl (fun hc => ?_) (fun hc => absurd (show true = false from hc) Bool.noConfusion) | refine zAj rfl (fun hc => absurd (show false = true from hc) Bool.noConfusion) (fun hc => ?_) | refine zAj rfl (fun hc => ?_) (fun hc => absurd hc (by decide +kernel)) | refine zAj rfl (fun hc => absurd hc (by decide +kernel)) (fun hc => ?_))
  generalize (⟨s.p + 1, s.e⟩ : Spot) = s1 at hf ⊢
  clear hoo hs hp hA
  generalize hcc : ({ c with k := 7 } : Cmd) = c1 at hz ⊢
  clear hcc
  have h2 := zO3 l ho s1 c1 [70, 82, 79, 77] (zVB l ho.1)
  change FnH _ _ _ _ _ (.agg (.es (eSp l (zID l c1 s1 zB3).2))) (mdC (zID l c1 s1 zB3).1) at h2
  refine zH [(900000, 900000)] kr kr h2 ?_
  exact zAb ⟨.inr rfl, _, _, _, rfl, zzp, rfl, fun X => zle⟩
 rw [if_neg hs]
 have n7 : zAc l s zKz = false := by simpa using hs
 clear hs
 have hoo : ooF l s 0 cwW = (0, zBQ l s) := by rw [zFR]; simp only [n1, n2, n3, n4, n5, n6, n7, if_false, Bool.false_eq_true]
 obtain ⟨hk, h2⟩ := Prod.mk.inj (hA.symm.trans hoo)
 subst hk
 subst h2
 obtain ⟨k, ow, tb, dr, cs, ro, ss, wh, q, to, rt, op⟩ := c
 have hk0 : k = 0 := hk0
 subst hk0
 repeat' (first | apply zn | refine zrt ?_ | refine zAj rfl (fun hc => ?_) (fun hc => absurd (show true = false from hc) Bool.noConfusion) | refine zAj rfl (fun hc => absurd (show false = true from hc) Bool.noConfusion) (fun hc => ?_) | refine zAj rfl (fun hc => ?_) (fun hc => absurd hc (by decide +kernel)) | refine zAj rfl (fun hc => absurd hc (by decide +kernel)) (fun hc => ?_))
 exact zAb ⟨.inr rfl, _, _, _, rfl, zzp, rfl, fun X => zle⟩
def mdO : List (Nat × Blk) := [(2, ⟨0, .box (.ds [.e (eI 0), .e (eI 0), .e (eT []), .e (eI 0), .nil, .nil, .nil, .e (eI 0), .e (eI 0), .e (eI 0), .e (eQ 0), .e (eT []), .e (eT []), .nil, .nil, .e (eI 0), .e (eI 0), .e (eI 0), .e (eQ 0), .e (eT []), .e (eT []), .nil, .e (eT []), .nil, .e (eBl false), .e (eI 0), .e (eI 0), .e (eI 0), .e (eBl false)]), 0⟩), (5, ⟨0, .box (.ds [.e (eI 0), .e (eI 0), .e (eT []), .e (eI 0), .own 11 0, .own 12 0, .own 13 0, .e (eI 0), .e (eI 0), .e (eI 0), .e (eQ 0), .e (eT []), .e (eT []), .e (.sl []), .own 14 0, .e (eI 0), .e (eI 0), .e (eI 0), .e (eQ 0), .e (eT []), .e (eT []), .e (.sl []), .e (eT []), .own 15 0, .e (eBl false), .e (eI 0), .e (eI 0), .e (eI 0), .e (eBl false)]), 0⟩), (11, ⟨0, .row 3 [], 0⟩), (12, ⟨0, .row 4 [], 0⟩), (13, ⟨0, .row 8 [], 0⟩), (14, ⟨0, .row 8 [], 0⟩), (15, ⟨0, .row 2 [], 0⟩)]
theorem zPk (l : List Tok) (hl : zCH l) : FnG Tryz.prog 5 (gDc) [.one (.e (zFU l))] (zV1 (zRD l)) := by
 refine zG 42 Tryz.func5 fun X hnt => ?_
 have h0 : (l.map zBO).length = l.length := List.length_map ..
 unfold zRD
 repeat' first | refine zx ?_ | fail
 refine zc (fun hc => ?_) fun hc => ?_
 ·simp only [zz] at hc
  (try simp only [h0] at hc)
  (try simp only [zz] at hc)
  rw [if_pos (by omega)]
  repeat' first | refine zx ?_ | apply zn
  exact zAb ⟨.inr rfl, _, _, rfl, (by repeat' first | exact trivial | exact Nat.le_of_ble_eq_true rfl | exact rfl | apply And.intro), rfl⟩
 simp only [zz] at hc
 (try simp only [h0] at hc)
 (try simp only [zz] at hc)
 have hL : l.length <= 100 := by omega
 rw [if_neg (by omega)]
 have h1 := zQ3 l hl.1 hL ⟨0, 0⟩ zFM (Nat.zero_le _) ⟨Nat.zero_le _, Nat.zero_le _, Nat.zero_le _, Nat.zero_le _, Nat.zero_le _⟩ rfl
 have ho := zR1 hl hL ⟨0, 0⟩
 have hfw := (zR2 l zFM ⟨0, 0⟩).2 (Nat.zero_le _)
 generalize hw : zEK l = w
 unfold zEK zTm at hw
 generalize zHm l zFM ⟨0, 0⟩ = A at h1 hfw hw ho
 obtain ⟨c1, p1, e1⟩ := A
 dsimp only at h1 hfw hw ho
 repeat' first | refine zx ?_ | apply zn
 refine zAq (s' := St.of [(0, .one (.e (zFU l))), (2, .one (.ptr 2 0 0)), (3, .one (.e (eI 0))), (4, .one (.e (eI 0))), (5, .one (.ptr 5 0 0)) , (1000000, .one (.eptr kwE)), (1000001, .one (.eptr agE)), (1000002, .one (.eptr rgE)), (1000003, .one (.eptr spE)), (1000004, .one (.eptr mkE)), (1000005, .one (.eptr fsE)), (1000006, .one (.eptr acE))] mdO) (zAh (ad := [11, 12, 13, 14, 15]) zzi zm) ?_
 have h1 : FnH Tryz.prog 9 gDc (mdC zFM) [.agg (.es [zFU l, eI 0, eI 0]), ptS] (.agg (.es (eSp l ⟨p1, e1⟩))) (mdC c1) := h1
 repeat' apply zn
 refine zAa (zzx hnt rfl ?_ (zA9 (us := []) [(900000, 5)] [(900001, 11), (900002, 12), (900003, 13), (900004, 14), (900005, 15)] [(900001, 11), (900002, 12), (900003, 13), (900004, 14), (900005, 15)] rfl rfl rfl rfl (h1) (by repeat' first | exact .nil | refine .lent rfl rfl rfl ?_ | refine zPD rfl ?_) (fun _ => rfl) rfl rfl hnt rfl rfl zzi zzi (zzx hnt rfl ?_ (Lex.nil _)))) ?_
 ·exact zzt
 ·exact zzt
 clear h1
 refine zAq (zDK 5 rfl rfl rfl) ?_
 refine zAq (s' := St.of [(0, .one (.e (zFU l))), (2, .one (.ptr 2 0 0)), (3, .one (.e (eI 0))), (4, .one (.e (eI 0))), (5, .one (.ptr 5 0 0)), (6, .one (.ptr 6 0 0)) , (1000000, .one (.eptr kwE)), (1000001, .one (.eptr agE)), (1000002, .one (.eptr rgE)), (1000003, .one (.eptr spE)), (1000004, .one (.eptr mkE)), (1000005, .one (.eptr fsE)), (1000006, .one (.eptr acE))] [(2, ⟨0, .box (.ds [.e (eI 0), .e (eI 0), .e (eT []), .e (eI 0), .nil, .nil, .nil, .e (eI 0), .e (eI 0), .e (eI 0), .e (eQ 0), .e (eT []), .e (eT []), .nil, .nil, .e (eI 0), .e (eI 0), .e (eI 0), .e (eQ 0), .e (eT []), .e (eT []), .nil, .e (eT []), .nil, .e (eBl false), .e (eI 0), .e (eI 0), .e (eI 0), .e (eBl false)]), 0⟩), (5, ⟨0, .box (.es (zBC c1)), 0⟩), (6, ⟨0, .box (.es (eSp l ⟨p1, e1⟩)), 0⟩)]) zle ?_
 have h2 : ((eSp l ⟨p1, e1⟩).getD (0 + 2) E.dflt).int = e1 := rfl
 have h3 : ((eSp l ⟨p1, e1⟩).getD (0 + 1) E.dflt).int = (p1 : Int) := rfl
 refine zx ?_
 have hb : (bif decide (((eSp l ⟨p1, e1⟩).getD (0 + 2) E.dflt).int = 0) then decide (((eSp l ⟨p1, e1⟩).getD (0 + 1) E.dflt).int < ((l.map zBO).length : Int)) else false) = (decide (e1 = 0) && decide (p1 < l.length)) := by
  rw [h2, h3, h0]
  by_cases he : e1 = 0 <;> by_cases hlt : p1 < l.length <;> simp [he, hlt]
 by_cases he : e1 = 0
 ·subst he
  by_cases hlt : p1 < l.length
  ·have hw2 : w = (zFM, (p1 : Int), 3) := by
    rw [<-hw, if_pos (show (0 : Int) = 0 /\ p1 ≠ l.length from ⟨rfl, by omega⟩)]
    rfl
   rw [hw2, if_pos (show ¬ ((zFM, (p1 : Int), (3 : Int)) : Cmd × Int × Int).2.2 = 0 from show ¬ (3 : Int) = 0 by decide)]
   refine zc (fun hc => ?_) fun hc => ?_
   rotate_left
   ·rw [show _ = _ from hb, decide_eq_true hlt] at hc
    exact absurd hc (by decide)
   clear hc
   repeat' first | refine zx ?_ | fail
   refine zc (fun hc => ?_) fun hc => ?_
   rotate_left
   ·exact absurd (show true = false from hc) Bool.noConfusion
   repeat' first | refine zx ?_ | apply zn
   exact zAb ⟨.inr rfl, _, _, rfl, (by repeat' first | exact trivial | exact Nat.le_of_ble_eq_true rfl | exact rfl | apply And.intro), rfl⟩
  have heq : p1 = l.length := by omega
  have hw2 : w = (c1, 0, 0) := by
   rw [<-hw, if_neg (show ¬ ((0 : Int) = 0 /\ p1 ≠ l.length) from fun h => h.2 heq), if_pos rfl]
  rw [hw2, if_neg (show ¬ ((c1, (0 : Int), (0 : Int)) : Cmd × Int × Int).2.2 ≠ 0 from fun h => h rfl)]
  dsimp only
  refine zc (fun hc => ?_) fun hc => ?_
  ·rw [show _ = _ from hb, decide_eq_false hlt] at hc
   exact absurd hc (by decide)
  clear hc
  repeat' first | refine zx ?_ | fail
  refine zc (fun hc => ?_) fun hc => ?_
  ·exact absurd (show false = true from hc) Bool.noConfusion
  clear hc
  have h4 := zPw c1 ho
  refine zV h4 ?_
  repeat' first | refine zx ?_ | fail
  refine zc (fun hc => ?_) fun hc => ?_
  ·simp only [zz] at hc
   rw [if_pos hc]
   repeat' first | refine zx ?_ | apply zn
   exact zAb ⟨.inr rfl, _, _, rfl, (by repeat' first | exact trivial | exact Nat.le_of_ble_eq_true rfl | exact rfl | apply And.intro), rfl⟩
  simp only [zz] at hc
  rw [if_neg (by simpa using hc)]
  repeat' first | refine zx ?_ | apply zn
  exact zAb ⟨.inr rfl, _, _, rfl, (by repeat' first | exact trivial | exact Nat.le_of_ble_eq_true rfl | exact rfl | apply And.intro), rfl⟩
 have hw2 : w = (zFM, (p1 : Int), e1) := by
  rw [<-hw, if_neg (show ¬ (e1 = 0 /\ p1 ≠ l.length) from fun h => he h.1), if_neg he]
 rw [hw2, if_pos (show ((zFM, (p1 : Int), e1) : Cmd × Int × Int).2.2 ≠ 0 from he)]
 refine zc (fun hc => ?_) fun hc => ?_
 ·rw [show _ = _ from hb, decide_eq_false he] at hc
  exact absurd hc (by simp)
 clear hc
 repeat' first | refine zx ?_ | fail
 refine zc (fun hc => ?_) fun hc => ?_
 rotate_left
 ·simp only [zz] at hc
  exact absurd hc he
 repeat' first | refine zx ?_ | apply zn
 exact zAb ⟨.inr rfl, _, _, rfl, (by repeat' first | exact trivial | exact Nat.le_of_ble_eq_true rfl | exact rfl | apply And.intro), rfl⟩
theorem zQf (r : List Val) (hb : r.length <= 1000) : FnD Tryz.prog 13 [.one (.e (zU2 r)), .one (.e (zU2 r))] (.v (.bool true)) := by
 refine zD 26 Tryz.func13 fun X hnt => ?_
 have hml := zHH r
 repeat' first | refine zx ?_ | fail
 refine zc (fun hc => ?_) fun hc => ?_
 ·simp only [zz] at hc
  exact (hc trivial).elim
 simp only [zz] at hc
 repeat' first | refine zx ?_ | apply zn
 repeat' apply zn
 refine zAx (σ := Nat) (fun i => St.of [(0, .one (.e (zU2 r))), (1, .one (.e (zU2 r))), (12, .one (.e (eI ((r.map zBw).length : Int)))), (13, .one (.e (eI (i : Int))))] []) (fun i => i <= r.length) (fun i => r.length - i) (0) (zAh (ad := []) ⟨zzl, zzl, zzl, zzl, trivial⟩ trivial) (Nat.zero_le _) ?_
 rintro i il
 repeat' first | refine zx ?_ | fail
 refine zc (fun hc => ?_) fun hc => ?_
 ·simp only [zz] at hc
  (try simp only [hml] at hc)
  (try simp only [zz] at hc)
  have hlt : i < r.length := by omega
  have hg := zRx r i hlt
  have e1 := zSU (r.getD i ⟨0, 0, 0, []⟩) (r.getD i ⟨0, 0, 0, []⟩)
  refine zxa ?_
  refine zy ?_ ?_
  ·rw [Int.toNat_natCast, hg, hml]
   exact zza
  rw [Int.toNat_natCast, hg]
  generalize r.getD i ⟨0, 0, 0, []⟩ = v at *
  refine zc (fun hc => ?_) fun hc => ?_
  ·have hc : (!(eqD tab 9 28 (.agg (.es (List.take 4 (List.drop 0 (zBw v))))) (.agg (.es (List.take 4 (List.drop 0 (zBw v)))))).2) = true := hc
   rw [zVv, decide_eq_true ⟨rfl, rfl, rfl, rfl⟩] at hc
   exact absurd hc (by decide)
  repeat' first | refine zx ?_ | apply zn
  refine ⟨i + 1, (by omega), by omega, zAh (ad := []) ⟨zzl, zzl, zzl, zzl, trivial⟩ trivial⟩
 simp only [zz] at hc
 (try simp only [hml] at hc)
 (try simp only [zz] at hc)
 refine zAt ?_
 repeat' first | refine zx ?_ | apply zn
 exact zAb ⟨.inr rfl, _, _, rfl, trivial, rfl⟩
theorem zXK (v w : Colm) : (eqD tab 9 83 (.agg (.es (List.take 3 (List.drop 0 (zCm v))))) (.agg (.es (List.take 3 (List.drop 0 (zCm w)))))).1 :=
 ⟨⟨Nat.le_of_ble_eq_true rfl, rfl⟩, ⟨Nat.le_of_ble_eq_true rfl, rfl⟩, trivial, ⟨Nat.le_of_ble_eq_true rfl, rfl⟩, ⟨Nat.le_of_ble_eq_true rfl, rfl⟩, rfl, ⟨Nat.le_of_ble_eq_true rfl, rfl⟩, ⟨Nat.le_of_ble_eq_true rfl, rfl⟩, trivial, trivial⟩
theorem zXJ (v : Colm) : (eqD tab 9 83 (.agg (.es (List.take 3 (List.drop 0 (zCm v))))) (.agg (.es (List.take 3 (List.drop 0 (zCm v)))))).2 = true := by
 show (zA1 (zA5 v.n) (zA5 v.n) && (v.k == v.k && (v.u == v.u && true))) = true
 rw [zAY, decide_eq_true rfl]
 simp
theorem zOe (r : List Colm) (hb : r.length <= 1000) : FnD Tryz.prog 12 [.one (.e (zPf r)), .one (.e (zPf r))] (.v (.bool true)) := by
 refine zD 26 Tryz.func12 fun X hnt => ?_
 have hml := zFL r
 repeat' first | refine zx ?_ | fail
 refine zc (fun hc => ?_) fun hc => ?_
 ·simp only [zz] at hc
  exact (hc trivial).elim
 simp only [zz] at hc
 repeat' first | refine zx ?_ | apply zn
 repeat' apply zn
 refine zAx (σ := Nat) (fun i => St.of [(0, .one (.e (zPf r))), (1, .one (.e (zPf r))), (12, .one (.e (eI ((r.map zCm).length : Int)))), (13, .one (.e (eI (i : Int))))] []) (fun i => i <= r.length) (fun i => r.length - i) (0) (zAh (ad := []) ⟨zzl, zzl, zzl, zzl, trivial⟩ trivial) (Nat.zero_le _) ?_
 rintro i il
 repeat' first | refine zx ?_ | fail
 refine zc (fun hc => ?_) fun hc => ?_
 ·simp only [zz] at hc
  (try simp only [hml] at hc)
  (try simp only [zz] at hc)
  have hlt : i < r.length := by omega
  have hg := zLp r i hlt
  have e1 := zXK (r.getD i zPR) (r.getD i zPR)
  refine zxa ?_
  refine zy ?_ ?_
  ·rw [Int.toNat_natCast, hg, hml]
   exact zza
  rw [Int.toNat_natCast, hg]
  generalize r.getD i zPR = v at *
  refine zc (fun hc => ?_) fun hc => ?_
  ·have hc : (!(eqD tab 9 83 (.agg (.es (List.take 3 (List.drop 0 (zCm v))))) (.agg (.es (List.take 3 (List.drop 0 (zCm v)))))).2) = true := hc
   rw [zXJ] at hc
   exact absurd hc (by decide)
  repeat' first | refine zx ?_ | apply zn
  refine ⟨i + 1, (by omega), by omega, zAh (ad := []) ⟨zzl, zzl, zzl, zzl, trivial⟩ trivial⟩
 simp only [zz] at hc
 (try simp only [hml] at hc)
 (try simp only [zz] at hc)
 refine zAt ?_
 repeat' first | refine zx ?_ | apply zn
 exact zAb ⟨.inr rfl, _, _, rfl, trivial, rfl⟩
theorem zKH (s : ByteArray) : zA1 s s = true := by
 unfold zA1
 simp
theorem zXI (v : QSo) : (eqD tab 9 90 (.agg (.es (List.take 2 (List.drop 0 (zC3 v))))) (.agg (.es (List.take 2 (List.drop 0 (zC3 v)))))).1 :=
 ⟨⟨Nat.le_of_ble_eq_true rfl, rfl⟩, ⟨Nat.le_of_ble_eq_true rfl, rfl⟩, rfl, ⟨Nat.le_of_ble_eq_true rfl, rfl⟩, ⟨Nat.le_of_ble_eq_true rfl, rfl⟩, trivial, trivial⟩
theorem zXH (v : QSo) : (eqD tab 9 90 (.agg (.es (List.take 2 (List.drop 0 (zC3 v))))) (.agg (.es (List.take 2 (List.drop 0 (zC3 v)))))).2 = true := by
 show (v.i == v.i && (v.d == v.d && true)) = true
 simp
theorem zQg (q : Qry) (hi : q.is.length <= 1000) (hs : q.ss.length <= 1000) (ho : q.ok) : FnD Tryz.prog 14 [.agg (.es (zDL q)), .agg (.es (zDL q))] (.v (.bool true)) := by
 refine zD 106 Tryz.func14 fun X hnt => ?_
 have hml := zFT q.is
 have hms := zGB q.ss
 have hx : FnD Tryz.prog 11 [.agg (.es (List.take 7 (List.drop (0 + 1) (zDL q)))), .agg (.es (List.take 7 (List.drop (0 + 1) (zDL q))))] (.v (.bool true)) := by
  rw [quW]
  exact zDA q.w ho.w
 repeat' first | refine zx ?_ | apply zn
 repeat' apply zn
 refine zAa (zzx hnt rfl ?_ (callG rfl rfl rfl rfl rfl rfl hnt rfl (fun hq => ?_) (fun hq => hx) (zzx hnt rfl ?_ (Lex.nil _)))) ?_
 ·exact zza
 ·exact zza
 ·exact zza
 refine zc (fun hc => ?_) fun hc => ?_
 ·simp [zKH] at hc
 clear hc hx
 repeat' first | refine zx ?_ | apply zn
 repeat' apply zn
 refine zAx (σ := Nat) (fun i => St.of [(2, .one (.ptr 2 0 0)), (3, .one (.ptr 3 0 0)), (54, .one (.e (eI ((q.is.map zBP).length : Int)))), (55, .one (.e (eI (i : Int))))] [(2, ⟨0, .box (.es (zDL q)), 0⟩), (3, ⟨0, .box (.es (zDL q)), 0⟩)]) (fun i => i <= q.is.length) (fun i => q.is.length - i) (0) (zAh (ad := []) ⟨zzl, zzl, zzl, zzl, trivial⟩ zm) (Nat.zero_le _) ?_
 rintro i il
 repeat' first | refine zx ?_ | fail
 refine zc (fun hc => ?_) fun hc => ?_
 ·simp only [zz] at hc
  (try simp only [hml] at hc)
  (try simp only [zz] at hc)
  have hlt : i < q.is.length := by omega
  have hg := zJW q.is i hlt
  have hx : FnD Tryz.prog 11 [.agg (.es (List.take 7 (List.drop (0 + 1) ((q.is.map zBP).getD (i : Int).toNat [])))), .agg (.es (List.take 7 (List.drop (0 + 1) ((q.is.map zBP).getD (i : Int).toNat []))))] (.v (.bool true)) := by
   rw [Int.toNat_natCast, hg, itX]
   exact zDA _ (ho.is _ (zEl hlt))
  have l8 : ((q.is.map zBP).getD (i : Int).toNat []).length = 8 := by rw [Int.toNat_natCast, hg]; rfl
  have hX : ((zDL q).getD (0 + 0) E.dflt).xs.getD (i : Int).toNat [] = zBP (q.is.getD i zMk) := by
   rw [Int.toNat_natCast]
   exact hg
  have k1 : (i : Int) < (((zDL q).getD (0 + 0) E.dflt).xs.length : Int) := by
   rw [show ((zDL q).getD (0 + 0) E.dflt).xs.length = q.is.length from hml]
   omega
  have k2 : 0 + 7 <= (Cs.es (List.drop 1 (((zDL q).getD (0 + 0) E.dflt).xs.getD (i : Int).toNat []))).len := by
   rw [hX]
   exact Nat.le_of_ble_eq_true rfl
  have k3 : 0 < (Cs.es (List.drop 0 (((zDL q).getD (0 + 0) E.dflt).xs.getD (i : Int).toNat []))).len := by
   rw [hX]
   exact Nat.le_of_ble_eq_true rfl
  have k4 : D0.isA (.int .i64) ((Cs.es (List.drop 0 (((zDL q).getD (0 + 0) E.dflt).xs.getD (i : Int).toNat []))).at 0) := by
   rw [hX]
   exact rfl
  refine zxa ?_
  repeat' apply zn
  refine zAK (T := tab) tOk hnt zAO (zA2 (T := tab) rfl ?_ (zEF rfl rfl rfl rfl rfl rfl rfl rfl (fun hq => ?_) (fun hq => hx) (zA2 (T := tab) rfl ?_ (.nil _)))) (by first | decide +kernel | kernel_rfl) ?_
  ·exact zza
  ·exact zza
  ·exact zza
  refine zc (fun hc => ?_) fun hc => ?_
  ·simp at hc
  clear hc
  repeat' first | refine zx ?_ | apply zn
  refine ⟨i + 1, (by omega), by omega, zAh (ad := []) ⟨zzl, zzl, zzl, zzl, trivial⟩ zm⟩
 simp only [zz] at hc
 (try simp only [hml] at hc)
 (try simp only [zz] at hc)
 refine zAt ?_
 repeat' first | refine zx ?_ | apply zn
 repeat' apply zn
 refine zAx (σ := Nat) (fun i => St.of [(2, .one (.ptr 2 0 0)), (3, .one (.ptr 3 0 0)), (90, .one (.e (eI ((q.ss.map zC3).length : Int)))), (91, .one (.e (eI (i : Int))))] [(2, ⟨0, .box (.es (zDL q)), 0⟩), (3, ⟨0, .box (.es (zDL q)), 0⟩)]) (fun i => i <= q.ss.length) (fun i => q.ss.length - i) (0) (zAh (ad := []) ⟨zzl, zzl, zzl, zzl, trivial⟩ zm) (Nat.zero_le _) ?_
 rintro i il
 repeat' first | refine zx ?_ | fail
 refine zc (fun hc => ?_) fun hc => ?_
 ·simp only [zz] at hc
  (try simp only [hms] at hc)
  (try simp only [zz] at hc)
  have hlt : i < q.ss.length := by omega
  have hg := zN7 q.ss i hlt
  have hX : ((zDL q).getD (0 + 9) E.dflt).xs.getD (i : Int).toNat [] = zC3 (q.ss.getD i zPN) := by
   rw [Int.toNat_natCast]
   exact hg
  have k1 : (i : Int) < (((zDL q).getD (0 + 9) E.dflt).xs.length : Int) := by
   rw [show ((zDL q).getD (0 + 9) E.dflt).xs.length = q.ss.length from hms]
   omega
  have e1 := zXI (q.ss.getD i zPN)
  have e2 := zXH (q.ss.getD i zPN)
  refine zxa ?_
  refine zy ?_ ?_
  ·rw [hX]
   exact zza
  rw [hX]
  refine zc (fun hc => ?_) fun hc => ?_
  ·have hc : (!(eqD tab 9 90 (.agg (.es (List.take 2 (List.drop 0 (zC3 (q.ss.getD i zPN)))))) (.agg (.es (List.take 2 (List.drop 0 (zC3 (q.ss.getD i zPN))))))).2) = true := hc
   rw [e2] at hc
   exact absurd hc (by decide)
  repeat' first | refine zx ?_ | apply zn
  refine ⟨i + 1, (by omega), by omega, zAh (ad := []) ⟨zzl, zzl, zzl, zzl, trivial⟩ zm⟩
 simp only [zz] at hc
 (try simp only [hms] at hc)
 (try simp only [zz] at hc)
 refine zAt ?_
 repeat' first | refine zx ?_ | apply zn
 exact zAb ⟨.inr rfl, _, _, rfl, trivial, rfl⟩
theorem zQh (c : Cmd) (ho : c.ok) (hz : Szs c 1000) : FnD Tryz.prog 6 [.agg (.es (zBC c)), .agg (.es (zBC c))] (.v (.bool true)) := by
 refine zD 124 Tryz.func6 fun X hnt => ?_
 have hml := zGD c.ss
 have hns := hz.ss
 have h11 : FnD Tryz.prog 11 [.agg (.es (List.take 7 (List.drop (0 + 7) (zBC c)))), .agg (.es (List.take 7 (List.drop (0 + 7) (zBC c))))] (.v (.bool true)) := by
  rw [cmW]
  exact zDA c.wh ho.wh
 have h14 : FnD Tryz.prog 14 [.agg (.es (List.take 12 (List.drop (0 + 14) (zBC c)))), .agg (.es (List.take 12 (List.drop (0 + 14) (zBC c))))] (.v (.bool true)) := zQg c.q hz.is hz.so ho.q
 have h12 := zOe c.cs hz.cs
 have h13 := zQf c.ro hz.ro
 repeat' first | refine zx ?_ | fail
 refine zc (fun hc => ?_) fun hc => ?_
 ·simp at hc
 clear hc
 repeat' first | refine zx ?_ | apply zn
 repeat' apply zn
 refine zAx (σ := Nat) (fun i => St.of [(2, .one (.ptr 2 0 0)), (3, .one (.ptr 3 0 0)), (15, .one (.e (eI ((c.ss.map zCe).length : Int)))), (16, .one (.e (eI (i : Int))))] [(2, ⟨0, .box (.es (zBC c)), 0⟩), (3, ⟨0, .box (.es (zBC c)), 0⟩)]) (fun i => i <= c.ss.length) (fun i => c.ss.length - i) (0) (zAh (ad := []) ⟨zzl, zzl, zzl, zzl, trivial⟩ zm) (Nat.zero_le _) ?_
 rintro i il
 repeat' first | refine zx ?_ | fail
 refine zc (fun hc => ?_) fun hc => ?_
 ·simp only [zz] at hc
  (try simp only [hml] at hc)
  (try simp only [zz] at hc)
  have hlt : i < c.ss.length := by omega
  have hg := zJu c.ss i hlt
  have hx : FnD Tryz.prog 11 [.agg (.es (List.take 7 (List.drop (0 + 1) ((c.ss.map zCe).getD (i : Int).toNat [])))), .agg (.es (List.take 7 (List.drop (0 + 1) ((c.ss.map zCe).getD (i : Int).toNat []))))] (.v (.bool true)) := by
   rw [Int.toNat_natCast, hg, seX]
   exact zDA _ (ho.ss _ (zEl hlt)).2
  have hX : ((zBC c).getD (0 + 6) E.dflt).xs.getD (i : Int).toNat [] = zCe (c.ss.getD i zLS) := by
   rw [Int.toNat_natCast]
   exact hg
  have k1 : (i : Int) < (((zBC c).getD (0 + 6) E.dflt).xs.length : Int) := by
   rw [show ((zBC c).getD (0 + 6) E.dflt).xs.length = c.ss.length from hml]
   omega
  have k0 : (((zBC c).getD (0 + 6) E.dflt).xs.getD (i : Int).toNat []).length = 8 := by
   rw [hX]
   rfl
  have k2 : 0 + 7 <= (Cs.es (List.drop 1 (((zBC c).getD (0 + 6) E.dflt).xs.getD (i : Int).toNat []))).len := by
   rw [hX]
   exact Nat.le_of_ble_eq_true rfl
  have k3 : 0 < (Cs.es (List.drop 0 (((zBC c).getD (0 + 6) E.dflt).xs.getD (i : Int).toNat []))).len := by
   rw [hX]
   exact Nat.le_of_ble_eq_true rfl
  have k4 : D0.isA .str ((Cs.es (List.drop 0 (((zBC c).getD (0 + 6) E.dflt).xs.getD (i : Int).toNat []))).at 0) := by
   rw [hX]
   exact rfl
  refine zxa ?_
  repeat' apply zn
  refine zAK (T := tab) tOk hnt zAO (zA2 (T := tab) rfl ?_ (zEF rfl rfl rfl rfl rfl rfl rfl rfl (fun hq => ?_) (fun hq => hx) (zA2 (T := tab) rfl ?_ (.nil _)))) (by first | decide +kernel | kernel_rfl) ?_
  ·exact zza
  ·exact zza
  ·exact zza
  refine zc (fun hc => ?_) fun hc => ?_
  ·simp [zKH] at hc
  clear hc
  repeat' first | refine zx ?_ | apply zn
  refine ⟨i + 1, (by omega), by omega, zAh (ad := []) ⟨zzl, zzl, zzl, zzl, trivial⟩ zm⟩
 simp only [zz] at hc
 (try simp only [hml] at hc)
 (try simp only [zz] at hc)
 refine zAt ?_
 repeat' apply zn
 refine zAa (zzx hnt rfl ?_ (callG rfl rfl rfl rfl rfl rfl hnt rfl (fun hq => ?_) (fun hq => h12) (zzx hnt rfl ?_ (callG rfl rfl rfl rfl rfl rfl hnt rfl (fun hq => ?_) (fun hq => h13) (zzx hnt rfl ?_ (callG rfl rfl rfl rfl rfl rfl hnt rfl (fun hq => ?_) (fun hq => h11) (zzx hnt rfl ?_ (callG rfl rfl rfl rfl rfl rfl hnt rfl (fun hq => ?_) (fun hq => h14) (zzx hnt rfl ?_ (Lex.nil _)))))))))) ?_
 ·exact zza
 ·exact zza
 ·exact zza
 ·exact zza
 ·exact zza
 ·exact zza
 ·exact zza
 ·exact zza
 ·exact zza
 repeat' apply zn
 refine zAb ⟨.inr rfl, _, _, rfl, trivial, congrArg (fun b => D.v (.bool b)) ?_⟩
 simp [zKH]
theorem zUa {l : List Tok} (hl : zCH l) : (zRD l).1.ok /\ Szs (zRD l).1 1000 := by
 have h := zLq
 have k0 : zFM.ok /\ Szs zFM 1000 := ⟨⟨h.tb, h.cs, h.ro, h.ss, h.wh, ⟨h.qw, h.qi, Nat.zero_le _, Nat.zero_le _⟩, h.g⟩, ⟨Nat.zero_le _, Nat.zero_le _, Nat.zero_le _, Nat.zero_le _, Nat.zero_le _⟩⟩
 unfold zRD
 split
 ·exact k0
 rename_i hL
 split
 ·exact k0
 split
 ·exact k0
 refine ⟨zOj hl (by omega), ?_⟩
 unfold zEK
 split
 ·exact (zPo l _).mono (by omega)
 ·exact k0.2
theorem zM1 (l : List Tok) (hl : zCH l) : FnG Tryz.prog 3 (gDc) [.one (.e (zFU l))] (.v (.bool true)) := by
 refine zG 34 Tryz.func3 fun X hnt => ?_
 have h1 := zT9 l hl
 have h2 := zPk l hl
 have ho := zUa hl
 generalize zRD l = r at *
 obtain ⟨c, a, b⟩ := r
 have h3 := zQh c ho.1 ho.2
 repeat' first | refine zx ?_ | fail
 refine zV h1 ?_
 refine zV h2 ?_
 repeat' apply zn
 refine zAa (zzx hnt rfl ?_ (callG rfl rfl rfl rfl rfl rfl hnt rfl (fun hq => ?_) (fun hq => h3) (zzx hnt rfl ?_ (Lex.nil _)))) ?_
 ·exact zza
 ·exact zza
 ·exact zza
 exact zAb ⟨.inr rfl, _, _, rfl, zzi, congrArg (fun b => D.v (.bool b)) (by simp)⟩
mutual
def zH1 (P : Program) : Nat -> TypeId -> DataW Unit -> Option (List Value)
 | 0, _, _ => none
 | f + 1, t, d => match P.underlying t, d with
  | some .bool, .lit (.bool b) => some [.bool b]
  | some (.int k), .lit (.int _ n) => some [.int k n]
  | some .string, .lit (.string l) => some [.string ⟨l.toArray⟩]
  | some (.struct fs), .agg ds => (zFW P f fs.toList ds 0).filter fun vs => vs.length == P.cellsOf t
  | some (.array _ e), .agg ds => (zH0 P f e ds).filter fun vs => vs.length == P.cellsOf t
  | _, _ => none
def zFW (P : Program) : Nat -> List Field -> List (DataW Unit) -> Nat -> Option (List Value)
 | 0, _, _, _ => none
 | _ + 1, [], [], _ => some []
 | f + 1, x :: fs, d :: ds, o => if x.offset = o then
   match zH1 P f x.type d with
   | some vs => if vs.length = P.cellsOf x.type then
     match zFW P f fs ds (o + vs.length) with
     | some us => some (vs ++ us)
     | none => none
    else none
   | none => none
  else none
 | _, _, _, _ => none
def zH0 (P : Program) : Nat -> TypeId -> List (DataW Unit) -> Option (List Value)
 | 0, _, _ => none
 | _ + 1, _, [] => some []
 | f + 1, e, d :: ds =>
  match zH1 P f e d, zH0 P f e ds with
  | some vs, some us => if vs.length = P.cellsOf e then some (vs ++ us) else none
  | _, _ => none
end
theorem zMJ {cs us vs : List Value} {o : Nat} (h1 : (cs.drop o).take us.length = us) (h2 : (cs.drop (o + us.length)).take vs.length = vs) : (cs.drop o).take (us ++ vs).length = us ++ vs := by
 rw [List.length_append, List.take_add, h1, List.drop_drop, h2]
theorem zPt (P : Program) (W : World) : ∀ (f : Nat),
  (∀ (k : Nat) (t : TypeId) (d : DataW Unit) (cs vs : List Value) (p : List MemPlace), zH1 P f t d = some vs -> DataW.trod (fun _ => ()) P W 0 (fun _ => true) false k t cs = some (d, p) -> cs = vs) ∧
  (∀ (k : Nat) (fs : List Field) (ds : List (DataW Unit)) (o : Nat) (cs us : List Value), zFW P f fs ds o = some us -> (∀ (i : Nat) x d, fs[i]? = some x -> ds[i]? = some d -> ∃ p, DataW.trod (fun _ => ()) P W 0 (fun _ => true) false k x.type ((cs.drop x.offset).take (P.cellsOf x.type)) = some (d, p)) -> (cs.drop o).take us.length = us) ∧
  (∀ (k : Nat) (e : TypeId) (ds : List (DataW Unit)) (o : Nat) (cs us : List Value), zH0 P f e ds = some us -> (∀ (i : Nat) d, ds[i]? = some d -> ∃ p, DataW.trod (fun _ => ()) P W 0 (fun _ => true) false k e ((cs.drop (o + i * P.cellsOf e)).take (P.cellsOf e)) = some (d, p)) -> (cs.drop o).take us.length = us) := by
 intro f
 induction f with
 | zero =>
  refine ⟨fun k t d cs vs p h => ?_, fun k fs ds o cs us h => ?_, fun k e ds o cs us h => ?_⟩
  ·rw [zH1] at h; cases h
  ·rw [zFW] at h; cases h
  ·rw [zH0] at h; cases h
 | succ f ih =>
  obtain ⟨ihD, ihF, ihL⟩ := ih
  refine ⟨fun k t d cs vs p h hr => ?_, fun k fs ds o cs us h hr => ?_, fun k e ds o cs us h hr => ?_⟩
  ·unfold zH1 at h
   split at h
   ·rename_i b hu
    obtain ⟨b', rfl, hx⟩ := DataW.trod_bool hu hr
    cases h
    cases hx
    rfl
   ·rename_i k' n hu
    obtain ⟨n', rfl, hx, _⟩ := DataW.trod_int hu hr
    cases h
    cases hx
    rfl
   ·rename_i l hu
    obtain ⟨s, rfl, hx, _⟩ := DataW.trod_string hu hr
    cases h
    cases hx
    rfl
   ·rename_i fs ds hu
    obtain ⟨xs, m, rfl, hx, hl, hn, hi⟩ := DataW.trod_struct hu hr
    obtain ⟨hf, hlen⟩ := Option.filter_eq_some_iff.1 h
    have hd : ds = xs.map (·.1) := by cases hx; rfl
    have h1 := ihF m fs.toList ds 0 cs vs hf (fun i x d hx' hd' => by
     rw [hd, List.getElem?_map, Option.map_eq_some_iff] at hd'
     obtain ⟨y, hy, rfl⟩ := hd'
     exact ⟨y.2, (hi i x (by simpa using hx')).trans hy⟩)
    have hlen : vs.length = P.cellsOf t := by simpa using hlen
    rw [hlen, <-hl] at h1
    simpa using h1
   ·rename_i n e ds hu
    obtain ⟨xs, m, rfl, hx, hl, hn, hi⟩ := DataW.trod_array hu hr
    obtain ⟨hf, hlen⟩ := Option.filter_eq_some_iff.1 h
    have hd : ds = xs.map (·.1) := by cases hx; rfl
    have h1 := ihL m e ds 0 cs vs hf (fun i d hd' => by
     rw [hd, List.getElem?_map, Option.map_eq_some_iff] at hd'
     obtain ⟨y, hy, rfl⟩ := hd'
     have hin := (List.getElem?_eq_some_iff.1 hy).1
     rw [Nat.zero_add]
     exact ⟨y.2, (hi i (by omega)).trans hy⟩)
    have hlen : vs.length = P.cellsOf t := by simpa using hlen
    rw [hlen, <-hl] at h1
    simpa using h1
   ·cases h
  ·cases fs with
   | nil =>
    cases ds with
    | nil => rw [zFW] at h; cases h; simp
    | cons d ds => unfold zFW at h; cases h
   | cons x fs =>
    cases ds with
    | nil => unfold zFW at h; cases h
    | cons d ds =>
     unfold zFW at h
     split at h
     ·rename_i ho
      split at h
      ·rename_i vs hv
       split at h
       ·rename_i hlen
        split at h
        ·rename_i us' hu
         cases h
         obtain ⟨p, hp⟩ := hr 0 x d rfl rfl
         have h1 := ihD _ _ _ _ _ _ hv hp
         rw [ho, <-hlen] at h1
         have h2 := ihF k fs ds (o + vs.length) cs us' hu (fun i x' d' hx hd => hr (i + 1) x' d' (by simpa using hx) (by simpa using hd))
         exact zMJ h1 h2
        ·cases h
       ·cases h
      ·cases h
     ·cases h
  ·cases ds with
   | nil => rw [zH0] at h; cases h; simp
   | cons d ds =>
    rw [zH0] at h
    split at h
    ·rename_i vs us' hv hu
     split at h
     ·rename_i hlen
      cases h
      obtain ⟨p, hp⟩ := hr 0 d rfl
      rw [Nat.zero_mul, Nat.add_zero] at hp
      have h1 := ihD _ _ _ _ _ _ hv hp
      rw [<-hlen] at h1
      have h2 := ihL k e ds (o + vs.length) cs us' hu (fun i d' hd => by
       have := hr (i + 1) d' (by simpa using hd)
       rw [Nat.add_mul, Nat.one_mul, <-hlen] at this
       rw [show o + vs.length + i * P.cellsOf e = o + (i * vs.length + vs.length) by rw [hlen]; omega, <-hlen]
       exact this)
      exact zMJ h1 h2
     ·cases h
    ·cases h
theorem zMi {P : Program} {W : World} : ∀ {l : List (String × DataW Unit)} {ps : List MemPlace}, DataW.LaidVars P W l ps -> ∀ x ∈ l,
  ∃ g t cs fuel p, P.globalNamed x.1 = some g /\ (P.globals[g]?).map (·.type) = some t /\ W.var? P x.1 = some cs /\ DataW.trod (fun _ => ()) P W 0 (fun _ => true) false fuel t cs.toList = some (x.2, p)
 | [], _, _, x, hx => nomatch hx
 | (n, d) :: l, ps, h, x, hx => by
  obtain ⟨g, t, cs, fuel, p, q, h1, h2, h3, h4, h5, _⟩ := h
  rcases List.mem_cons.1 hx with rfl | hx
  ·exact ⟨g, t, cs, fuel, p, h1, h2, h3, h4⟩
  ·exact zMi h5 x hx
def E.vv : E -> Value
 | .v u => u
 | _ => undef
theorem zCk {P : Program} {W : World} {l : List (String × DataW Unit)} (h : laidMet P l W) {x : String × DataW Unit} (hx : x ∈ l) {g : Nat} {t : TypeId} (hg : P.globalNamed x.1 = some g) (ht : (P.globals[g]?).map (·.type) = some t)
  {f : Nat} {es : List E} (hd : zH1 P f t x.2 = some (es.map E.vv)) (hv : (es.map E.vv).all (fun v => v.oneCell') = true) (he : es = (es.map E.vv).map .v) : zAy p0 (CI W zPF) W (.one (.eptr es)) (.pointer (some ⟨g, 0, none⟩)) := by
 obtain ⟨ps, h, _⟩ := h
 obtain ⟨g', t', cs, fuel, p, h1, h2, h3, h4⟩ := zMi h _ hx
 obtain rfl := Option.some.inj (hg.symm.trans h1)
 obtain rfl := Option.some.inj (ht.symm.trans h2)
 generalize es.map E.vv = vs at hd hv he
 have hcs := (zPt P W f).1 _ _ _ _ _ _ hd h4
 subst he
 refine ⟨g, 0, rfl, fun j e he => ?_⟩
 rw [List.getElem?_map, Option.map_eq_some_iff] at he
 obtain ⟨v, hv', rfl⟩ := he
 refine ⟨v, ⟨?_, trivial⟩, .v v (List.all_eq_true.1 hv v (List.mem_of_getElem? hv'))⟩
 rw [Nat.zero_add, World.var?_cell h1 h3 j, <-hv', <-hcs]
 simp
end Go.Proofs.YtcdifgacoleckaaGreatDoor
