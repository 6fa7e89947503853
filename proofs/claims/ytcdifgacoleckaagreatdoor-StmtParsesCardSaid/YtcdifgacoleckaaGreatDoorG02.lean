/- Part of the proof: steps of the program over abstract states. No condition. -/
import Derived.Test.YtcdifgacoleckaaGreatDoorG01
import Derived.Lib.ConvBytes
import Derived.Laws.MakeOwn
import Derived.Laws.RangeAny
set_option linter.unusedVariables false
set_option linter.unusedSimpArgs false
namespace Go.Proofs.YtcdifgacoleckaaGreatDoor.Ab
open Go Go.RowKit
section
variable {P : Program} {T : Nat -> Option TI} {X : Ctx} {w : World} {p : Rho}
theorem zHi.kept {p' : Rho} {C C' : Nat -> Nat -> Value -> Prop} {w' : World} (h : Kept p C w p' C' w') : ∀ {ds : List (Nat × D)} {vs : List (Nat × Value)}, zHi p C w ds vs -> zHi p' C' w' ds vs
 | [], [], _ => trivial
 | (i, d) :: r, (j, v) :: s, hr => ⟨hr.1, hr.2.1.kept h, zHi.kept h hr.2.2⟩
 | [], _ :: _, hr => hr.elim
 | _ :: _, [], hr => hr.elim
theorem zFE {m m' : Mem} {μ : Nat -> Option Nat} (hR : RM X ⟨m', μ⟩ w) {sz : Nat} : ∀ {k : Nat} {ds : List (Nat × D)} {vs : List (Nat × Value)} {φ : Prop} {xs : List (List E)} {us : zBa},
  zHi ⟨m', μ⟩ (CW X ⟨m', μ⟩ w) w ds vs -> zCr m sz k ds = some (φ, xs, us) -> φ -> (∀ u ∈ us, m' u.1 = some u.2) ->
  xs.length = ds.length /\ (∀ cs ∈ xs, cs.length = sz) /\ zBA ⟨m', μ⟩ (CW X ⟨m', μ⟩ w) w (xs.flatten.map .e) (vs.map fun q => q.2.cells.toList).flatten /\ (∀ v ∈ vs.map (·.2), v.cells.size = sz) /\ vs = ((vs.map (·.2)).zipIdx k).map (fun q => (q.2, q.1))
 | k, [], [], φ, xs, us, _, h, _, _ => by
  cases h
  exact ⟨rfl, (fun cs hc => nomatch hc), ⟨rfl, (fun i x u h => nomatch h)⟩, (fun v hv => nomatch hv), rfl⟩
 | k, (i, d) :: r, (j, v) :: s, φ, xs, us, hr, h, hφ, hu => by
  obtain ⟨rfl, hd, hrs⟩ := hr
  rw [zCr] at h
  cases hk : Nat.beq i k with
  | false => simp [hk] at h
  | true =>
   obtain rfl := Nat.eq_of_beq_eq_true hk
   simp only [hk, cond_true] at h
   split at h
   ·rename_i c hc
    split at h
    ·rename_i es u φ' xs' us' h1 h2
     cases h
     obtain ⟨f1, f2⟩ := hφ
     obtain ⟨k1, k2, k3, k4, k5⟩ := zFE hR hrs h2 f2 (fun u hu' => hu u (by simp [hu']))
     have hv := zJB hd hc
     have hf := zEm hR hv h1 (fun u hu' => hu u (by simp [hu']))
     refine ⟨by simp [k1], fun cs hcs => ?_, ?_, fun v' hv' => ?_, ?_⟩
     ·rcases List.mem_cons.1 hcs with rfl | hcs
      ·exact f1
      ·exact k2 cs hcs
     ·simp only [List.flatten_cons, List.map_append, List.map_cons]
      exact zAZ hf k3
     ·rcases List.mem_cons.1 hv' with rfl | hv'
      ·have := hf.1
       rw [List.length_map, f1] at this
       simpa using this.symm
      ·exact k4 v' hv'
     ·simp only [List.map_cons, List.zipIdx_cons]
      rw [<-k5]
    ·cases h
   ·cases h
 | k, [], _ :: _, _, _, _, hr, _, _, _ => hr.elim
 | k, _ :: _, [], _, _, _, hr, _, _, _ => hr.elim
theorem zIO {m : Mem} {sz : Nat} : ∀ {k : Nat} {ds : List (Nat × D)} {φ : Prop} {xs : List (List E)} {us : zBa}, zCr m sz k ds = some (φ, xs, us) -> zJa m us
 | k, [], _, _, _, h => by cases h; exact fun u hu => nomatch hu
 | k, (i, d) :: r, φ, xs, us, h => by
  rw [zCr] at h
  cases hk : Nat.beq i k with
  | false => simp [hk] at h
  | true =>
   simp only [hk, cond_true] at h
   split at h
   ·split at h
    ·rename_i es u φ' xs' us' h1 h2
     cases h
     intro v hv
     rcases List.mem_append.1 hv with hv | hv
     ·exact zIH h1 v hv
     ·exact zIO h2 v hv
    ·cases h
   ·cases h
theorem zR4 {us : zBa} {id : Nat} (h : (us.all fun u => !Nat.beq u.1 id) = true) : ∀ u ∈ us, u.1 ≠ id := fun u hu e => by
 have := List.all_eq_true.1 h u hu
 rw [e] at this
 simp at this
theorem zJ7 (sz : Nat) (hs : 0 < sz) (vs : List Value) (cells : Array Value) (h1 : ∀ v ∈ vs, v.cells.size = sz) (hn : vs.length * sz = cells.size) :
  ∃ out : Array Value, Instr.fill (fun i => some (i * sz, sz)) cells (vs.zipIdx.map fun q => (q.2, q.1)) = some out /\ out.toList = (vs.map fun v => v.cells.toList).flatten := by
 have key : ∀ (vs : List Value) (k : Nat) (cells : Array Value) (pre : List Value), (∀ v ∈ vs, v.cells.size = sz) -> pre.length = k * sz -> (k + vs.length) * sz = cells.size -> cells.toList.take (k * sz) = pre ->
   ∃ out : Array Value, Instr.fill (fun i => some (i * sz, sz)) cells ((vs.zipIdx k).map fun q => (q.2, q.1)) = some out /\ out.toList = pre ++ (vs.map fun v => v.cells.toList).flatten := by
  intro vs
  induction vs with
  | nil =>
   intro k cells pre _ hp hc ht
   refine ⟨cells, rfl, ?_⟩
   simp only [List.map_nil, List.flatten_nil, List.append_nil]
   rw [<-ht, List.take_of_length_le]
   simp only [List.length_nil, Nat.add_zero] at hc
   simp [hc]
  | cons v vs ih =>
   intro k cells pre h1 hp hc ht
   have hv := h1 v (by simp)
   simp only [List.length_cons] at hc
   have hle : k * sz + sz <= cells.size := by
    rw [<-hc, <-Nat.succ_mul]
    exact Nat.mul_le_mul_right _ (by omega)
   simp only [List.zipIdx_cons, List.map_cons]
   obtain ⟨cs', e1, e2⟩ := zIJ (place := fun i => some (i * sz, sz)) (cells := cells) (rest := (vs.zipIdx (k + 1)).map fun q => (q.2, q.1)) (i := k) (v := v) rfl hv hle
   rw [e1]
   have hcs : cs'.size = cells.size := by
    rw [<-Array.length_toList, e2]
    simp [hv]
    omega
   obtain ⟨out, o1, o2⟩ := ih (k + 1) cs' (pre ++ v.cells.toList) (fun u hu => h1 u (by simp [hu])) (by simp [hp, hv, Nat.succ_mul]) (by rw [hcs, <-hc]; congr 1; omega) (by
    rw [e2, ht, List.take_append_of_le_length (by simp [hp, hv, Nat.succ_mul]), List.take_of_length_le (by simp [hp, hv, Nat.succ_mul])])
   exact ⟨out, o1, by rw [o2]; simp⟩
 obtain ⟨out, o1, o2⟩ := key vs 0 cells [] h1 (by simp) (by simpa using hn) (by simp)
 exact ⟨out, o1, by simpa using o2⟩
theorem zHc (hT : TOk P T) (hR : RM X p w) {t len id : Nat} {ps : Array (Nat × Operand)} {ev : Ev} {o : Oper} {ρ : Operand -> Value} (ho : o.op = .buildSlice t len ps) (hρ : ∀ q ∈ ps.toList, zAy p (CW X p w) w (ev q.2) (ρ q.2)) {ef : Ef}
  (h : zBM T p.mem id t len (ps.toList.map fun q => (q.1, ev q.2)) = some ef) (hφ : ef.φ) : zJc P X p w o ρ ef := by
 have hps := zE1 (p := p) (C := CW X p w) (w := w) ps.toList hρ
 have hmap : (ps.map fun (i, x) => (i, ρ x)).toList = ps.toList.map fun q => (q.1, ρ q.2) := by simp
 generalize (ps.toList.map fun q => (q.1, ρ q.2)) = vs at hps hmap
 generalize (ps.toList.map fun q => (q.1, ev q.2)) = ds at hps h
 unfold zBM at h
 split at h
 ·rename_i a b e z ht
  have hu := zBI hT ht
  split at h
  ·rename_i ti hti
   have htik := hT _ _ hti
   split at h
   ·rename_i φ xs us he
    cases hc : (Nat.beq ti.size 0 || !Nat.beq ds.length len || !(us.all fun u => !Nat.beq u.1 id)) with
    | true => simp [hc] at h
    | false =>
     simp only [hc, cond_false, Option.some.injEq] at h
     simp only [Bool.or_eq_false_iff, Bool.not_eq_false'] at hc
     obtain ⟨⟨c1, c2⟩, c3⟩ := hc
     have hz0 : 0 < ti.size := Nat.pos_of_ne_zero fun e => by rw [e] at c1; cases c1
     obtain rfl := Nat.eq_of_beq_eq_true c2
     subst h
     obtain ⟨f1, f2, f4⟩ := hφ
     obtain ⟨m, μ⟩ := p
     obtain ⟨r1, r2, r3, r4⟩ := RM.pubs us m hR (zIO he)
     obtain ⟨k1, k2, k3, k4, k5⟩ := zFE r1 (hps.kept r2) he f1 r3
     have hvl : (vs.map (·.2)).length = ds.length := by
      have : ∀ (ds : List (Nat × D)) (vs : List (Nat × Value)), zHi ⟨m, μ⟩ (CW X ⟨m, μ⟩ w) w ds vs -> vs.length = ds.length := by
       intro ds
       induction ds with
       | nil => intro vs h; cases vs with
        | nil => rfl
        | cons => exact h.elim
       | cons d ds ih => intro vs h; cases vs with
        | nil => exact h.elim
        | cons v vs => simp [ih vs h.2.2]
      rw [List.length_map, this ds vs hps]
     have hvz : (vs.map fun q => q.2.cells.toList).flatten = ((vs.map (·.2)).map fun v => v.cells.toList).flatten := by rw [List.map_map]; rfl
     generalize hvv : vs.map (·.2) = us' at k4 k5 hvl hvz
     obtain ⟨zv, hz1, hz2⟩ := zD8 (w := w) htik
     obtain ⟨zz, hzz⟩ : ∃ zz : Array Value, (if ds.length * ti.size = 0 then pure #[] else do pure (<-zeroValue e).cells : Sem (Array Value)).run P w = .ok zz w := by
      by_cases h0 : ds.length * ti.size = 0
      ·exact ⟨#[], by rw [if_pos h0]; rfl⟩
      ·exact ⟨zv.cells, by rw [if_neg h0]; simp [hz1]⟩
     obtain ⟨out, o1, o2⟩ := zJ7 ti.size hz0 us' ((Array.range (ds.length * ti.size)).map fun q => zz[q % zz.size]!) k4 (by rw [hvl]; simp)
     rw [<-k5] at o1
     have hrun : (execOp ρ o).run P w = .ok (.value (.slice (some ⟨w.heap.size, 0, none⟩) ds.length ds.length)) (w.alloc (.cells out e)) := by
      have hno : ¬ (ds.length * ti.size > 2 ^ 24) := by omega
      have hb : (Instr.buildSlice t ds.length (ps.map fun (i, x) => (i, ρ x))).run P w = .ok (.slice (some ⟨w.heap.size, 0, none⟩) ds.length ds.length) (w.alloc (.cells out e)) := by
       by_cases h0 : ds.length * ti.size = 0
       ·rw [if_pos h0] at hzz
        cases hzz
        have o1' : Instr.fill (fun i => some (i * ti.size, ti.size)) ((Array.range (ds.length * ti.size)).map fun q => (#[] : Array Value)[q % (#[] : Array Value).size]!) vs = some out := o1
        simp only [Instr.buildSlice, Sem.run_bind, run_underlying hu, Result.andThen_ok, htik.size, hno, if_false, if_pos h0, hmap, Sem.run_pure]
        rw [o1']
        simp [newRow]
       ·rw [if_neg h0] at hzz
        simp only [Sem.run_bind, hz1, Result.andThen_ok, Sem.run_pure, Result.ok.injEq] at hzz
        obtain ⟨rfl, _⟩ := hzz
        simp only [Instr.buildSlice, Sem.run_bind, run_underlying hu, Result.andThen_ok, htik.size, hno, if_false, if_neg h0, hz1, hmap, Sem.run_pure]
        have o1' : Instr.fill (fun i => some (i * ti.size, ti.size)) ((Array.range (ds.length * ti.size)).map fun q => zv.cells[q % zv.cells.size]!) vs = some out := o1
        rw [o1']
        simp [newRow]
      simp only [execOp, ho, Sem.run_bind, hb, Result.andThen_ok]
      rfl
     have hol : out.size = ds.length * ti.size := by
      have h1 := k3.1
      rw [List.length_map, zAz xs k2, k1, hvz, <-o2, Array.length_toList] at h1
      exact h1.symm
     have ra := zDV (X := X) (p := ⟨zBd m us, μ⟩) r1 (ob := out) (t := e) (lo := 0) (hi := 0) (id := id) (ver := zDd m id) (z := ti.size) (cap := ds.length) (xs := xs) (pub := 0) (w.alloc (.cells out e)) rfl rfl rfl rfl (by omega) hz0 k2 (fun b hb => by
      have hb : zBd m us id = some b := hb
      rw [r4 id (zR4 c3)] at hb
      exact zD0 (p := ⟨m, μ⟩) b hb) (Nat.zero_le _) (by rw [k1]; exact Nat.le_refl _) (by simp only [maxLen]; omega) (by rw [hol]; exact Nat.le_refl _) k3 (fun i u hu => by
       rw [hvz, <-o2] at hu
       rw [<-Array.getElem?_toList]
       exact hu)
     rw [k1] at ra
     refine ⟨_, _, upd μ id (some w.heap.size), .inl hrun, ?_⟩
     simp only [zDG]
     exact ⟨ra.1, r2.trans ra.2.1, ra.2.2⟩
   ·cases h
  ·cases h
 ·cases h
theorem zQE (hT : TOk P T) (hR : RM X p w) {t len id : Nat} {ps : Array (Nat × Operand)} {ev : Ev} {o : Oper} {ρ : Operand -> Value} (ho : o.op = .buildSlice t len ps) (hρ : ∀ q ∈ ps.toList, zAy p (CW X p w) w (ev q.2) (ρ q.2)) {φ : Prop} {i ver i' ver' z' pub' : Nat} {xs' : List (List E)}
  (h : zBM T p.mem id t len (ps.toList.map fun q => (q.1, ev q.2)) = some ⟨φ, .one (.own i ver), [(i', ⟨ver', .row z' xs', pub'⟩)]⟩) (hφ : φ) : zJc P X p w o ρ ⟨True, .one (.e (.sl xs')), []⟩ := by
 have hps := zE1 (p := p) (C := CW X p w) (w := w) ps.toList hρ
 have hmap : (ps.map fun (i, x) => (i, ρ x)).toList = ps.toList.map fun q => (q.1, ρ q.2) := by simp
 generalize (ps.toList.map fun q => (q.1, ρ q.2)) = vs at hps hmap
 generalize (ps.toList.map fun q => (q.1, ev q.2)) = ds at hps h
 unfold zBM at h
 split at h
 ·rename_i a b e z ht
  have hu := zBI hT ht
  split at h
  ·rename_i ti hti
   have htik := hT _ _ hti
   split at h
   ·rename_i φ xs us he
    cases hc : (Nat.beq ti.size 0 || !Nat.beq ds.length len || !(us.all fun u => !Nat.beq u.1 id)) with
    | true => simp [hc] at h
    | false =>
     simp only [hc, cond_false, Option.some.injEq, Ef.mk.injEq] at h
     simp only [Bool.or_eq_false_iff, Bool.not_eq_false'] at hc
     obtain ⟨⟨c1, c2⟩, c3⟩ := hc
     have hz0 : 0 < ti.size := Nat.pos_of_ne_zero fun e => by rw [e] at c1; cases c1
     obtain rfl := Nat.eq_of_beq_eq_true c2
     obtain ⟨rfl, _, h⟩ := h
     cases us with
     | cons u r => cases r <;> cases h
     | nil =>
     obtain ⟨e1, e2⟩ := Prod.mk.inj (List.cons.inj h).1
     subst e1
     cases e2
     obtain ⟨f1, f2, f4⟩ := hφ
     obtain ⟨m, μ⟩ := p
     obtain ⟨r1, r2, r3, r4⟩ := RM.pubs [] m hR (zIO he)
     obtain ⟨k1, k2, k3, k4, k5⟩ := zFE r1 (hps.kept r2) he f1 r3
     have hvl : (vs.map (·.2)).length = ds.length := by
      have : ∀ (ds : List (Nat × D)) (vs : List (Nat × Value)), zHi ⟨m, μ⟩ (CW X ⟨m, μ⟩ w) w ds vs -> vs.length = ds.length := by
       intro ds
       induction ds with
       | nil => intro vs h; cases vs with
        | nil => rfl
        | cons => exact h.elim
       | cons d ds ih => intro vs h; cases vs with
        | nil => exact h.elim
        | cons v vs => simp [ih vs h.2.2]
      rw [List.length_map, this ds vs hps]
     have hvz : (vs.map fun q => q.2.cells.toList).flatten = ((vs.map (·.2)).map fun v => v.cells.toList).flatten := by rw [List.map_map]; rfl
     generalize hvv : vs.map (·.2) = us' at k4 k5 hvl hvz
     obtain ⟨zv, hz1, hz2⟩ := zD8 (w := w) htik
     obtain ⟨zz, hzz⟩ : ∃ zz : Array Value, (if ds.length * ti.size = 0 then pure #[] else do pure (<-zeroValue e).cells : Sem (Array Value)).run P w = .ok zz w := by
      by_cases h0 : ds.length * ti.size = 0
      ·exact ⟨#[], by rw [if_pos h0]; rfl⟩
      ·exact ⟨zv.cells, by rw [if_neg h0]; simp [hz1]⟩
     obtain ⟨out, o1, o2⟩ := zJ7 ti.size hz0 us' ((Array.range (ds.length * ti.size)).map fun q => zz[q % zz.size]!) k4 (by rw [hvl]; simp)
     rw [<-k5] at o1
     have hrun : (execOp ρ o).run P w = .ok (.value (.slice (some ⟨w.heap.size, 0, none⟩) ds.length ds.length)) (w.alloc (.cells out e)) := by
      have hno : ¬ (ds.length * ti.size > 2 ^ 24) := by omega
      have hb : (Instr.buildSlice t ds.length (ps.map fun (i, x) => (i, ρ x))).run P w = .ok (.slice (some ⟨w.heap.size, 0, none⟩) ds.length ds.length) (w.alloc (.cells out e)) := by
       by_cases h0 : ds.length * ti.size = 0
       ·rw [if_pos h0] at hzz
        cases hzz
        have o1' : Instr.fill (fun i => some (i * ti.size, ti.size)) ((Array.range (ds.length * ti.size)).map fun q => (#[] : Array Value)[q % (#[] : Array Value).size]!) vs = some out := o1
        simp only [Instr.buildSlice, Sem.run_bind, run_underlying hu, Result.andThen_ok, htik.size, hno, if_false, if_pos h0, hmap, Sem.run_pure]
        rw [o1']
        simp [newRow]
       ·rw [if_neg h0] at hzz
        simp only [Sem.run_bind, hz1, Result.andThen_ok, Sem.run_pure, Result.ok.injEq] at hzz
        obtain ⟨rfl, _⟩ := hzz
        simp only [Instr.buildSlice, Sem.run_bind, run_underlying hu, Result.andThen_ok, htik.size, hno, if_false, if_neg h0, hz1, hmap, Sem.run_pure]
        have o1' : Instr.fill (fun i => some (i * ti.size, ti.size)) ((Array.range (ds.length * ti.size)).map fun q => zv.cells[q % zv.cells.size]!) vs = some out := o1
        rw [o1']
        simp [newRow]
      simp only [execOp, ho, Sem.run_bind, hb, Result.andThen_ok]
      rfl
     have hol : out.size = ds.length * ti.size := by
      have h1 := k3.1
      rw [List.length_map, zAz xs' k2, k1, hvz, <-o2, Array.length_toList] at h1
      exact h1.symm
     have hbel : Below w.heap.size w (w.alloc (.cells out e)) := ⟨rfl, rfl, rfl, by show w.heap.size <= (w.heap.push _).size; rw [Array.size_push]; omega, fun q hq => by
      show (w.heap.push _)[q]? = _
      rw [Array.getElem?_push, if_neg (by omega)]⟩
     obtain ⟨q1, q2⟩ := hR.call hbel
     have hcell : ∀ q, (w.alloc (.cells out e)).cell? ⟨w.heap.size, q, none⟩ = out[q]? := fun q => zCN (fr := (0, 0)) (by show (w.heap.push _)[w.heap.size]? = _; rw [Array.getElem?_push, if_pos rfl]) q
     have hget : ∀ i cs j e', xs'[i]? = some cs -> cs[j]? = some e' -> ∃ u, out[i * ti.size + j]? = some u /\ RepE (CW X ⟨m, μ⟩ w) e' u := fun i cs j e' hi hj => by
      have hj' : j < ti.size := by
       rw [<-k2 cs (List.mem_of_getElem? hi)]
       exact (List.getElem?_eq_some_iff.1 hj).1
      have hfl := zEp xs' k2 i j hj'
      rw [List.getD_eq_getElem?_getD, hi, Option.getD_some, hj] at hfl
      have hlt := (List.getElem?_eq_some_iff.1 hfl).1
      have hlt2 : i * ti.size + j < (vs.map fun q => q.2.cells.toList).flatten.length := by
       rw [<-k3.1, List.length_map]
       exact hlt
      refine ⟨_, ?_, k3.2 (i * ti.size + j) (.e e') _ (by rw [List.getElem?_map, hfl]; rfl) (List.getElem?_eq_getElem hlt2)⟩
      rw [<-Array.getElem?_toList, o2, <-hvz]
      exact List.getElem?_eq_getElem hlt2
     refine ⟨_, _, μ, .inl hrun, q1, q2, ?_⟩
     have hnot : ∀ id blk, m id = some blk -> μ id = some w.heap.size -> False := fun id blk m1 m2 => by
      have := hR.blk id blk m1
      simp only [zAP, m2] at this
      obtain ⟨_, _, _, _, cur, e, lo, hi, g4, _⟩ := this
      exact absurd (Array.getElem?_eq_some_iff.1 g4).1 (Nat.lt_irrefl _)
     refine RepE.sl _ _ _ ti.size w.heap.size 0 (fun i j => out.getD (i * ti.size + j) undef) xs' k1 (Nat.le_refl _) (by simp only [maxLen]; omega) (fun _ => rfl) k2 (fun i cs j e' hi hj => ?_) (fun i cs j e' hi hj => ?_)
     ·obtain ⟨u, h1, _⟩ := hget i cs j e' hi hj
      refine ⟨?_, fun hno => absurd (.inl hR.bel.size) hno, fun _ id blk m1 m2 => (hnot id blk m1 m2).elim⟩
      rw [Nat.zero_add, hcell, Array.getD_eq_getD_getElem?, h1]
      rfl
     ·obtain ⟨u, h1, h2⟩ := hget i cs j e' hi hj
      have h2 := h2.mono q2.hC
      rw [show out.getD (i * ti.size + j) undef = u by rw [Array.getD_eq_getD_getElem?, h1]; rfl]
      exact h2
   ·cases h
  ·cases h
 ·cases h
theorem zNI (hT : TOk P T) (hR : RM X p w) {s dt id : Nat} {x : Operand} {dx : D} {o : Oper} {ρ : Operand -> Value} (ho : o.op = .convert s dt x) (hx : zAy p (CW X p w) w dx (ρ x)) {ef : Ef}
  (h : zEs T p.mem id s dt dx = some ef) (hφ : ef.φ) : zJc P X p w o ρ ef := by
 unfold zEs at h
 split at h
 ·rename_i a b z a' b' e z' str hs hd
  have hus := zEZ hT hs
  have hud := zBI hT hd
  split at h
  ·rename_i b'' z'' hte
   have hue := zHR hT hte
   cases h
   have hρx := zCu hx
   obtain ⟨i0, d0, z0, g1, g2, _⟩ := (hT _ _ hs).out
   have hge : str.size <= grownCap w str.size 0 e := grownCap_ge w str.size 0 e
   have hle : grownCap w str.size 0 e <= maxLen := grownCap_le_maxLen w str.size 0 e hφ
   have hbl : (byteCells str).length = str.size := byteCells_length str
   have hbc : (Lib.bytesCells w e str).size = grownCap w str.size 0 e /\ ∀ (i : Nat) u, (byteCells str)[i]? = some u -> (Lib.bytesCells w e str)[i]? = some u := by
    have hel : (str.data.map fun b => Value.int .u8 (b.toNat : Int)) = (byteCells str).toArray := by
     apply Array.ext'
     simp [byteCells]
    unfold Lib.bytesCells
    rw [hel]
    refine ⟨by simp only [Array.size_append, List.size_toArray, Array.size_replicate, hbl]; omega, fun i u hu => ?_⟩
    rw [Array.getElem?_append_left (by simpa using (List.getElem?_eq_some_iff.1 hu).1)]
    simpa using hu
   have hheap : (Lib.bytesWorld w e str).heap = w.heap.push (.cells (Lib.bytesCells w e str) e ((Lib.bytesCells w e str).size, (Lib.bytesCells w e str).size + 1)) := by
    apply Array.ext
    ·rw [Lib.bytesWorld_size]; simp
    ·intro i h1 h2
     rw [Lib.bytesWorld_size] at h1
     have : (Lib.bytesWorld w e str).heap[i]? = (w.heap.push (.cells (Lib.bytesCells w e str) e ((Lib.bytesCells w e str).size, (Lib.bytesCells w e str).size + 1)))[i]? := by
      by_cases hi : i = w.heap.size
      ·subst hi
       rw [Lib.bytesWorld_at_new]; simp
      ·rw [Lib.bytesWorld_at_old _ _ _ _ (by omega), Array.getElem?_push, if_neg hi]
     rw [Array.getElem?_eq_getElem (by rw [Lib.bytesWorld_size]; exact h1), Array.getElem?_eq_getElem h2] at this
     exact Option.some.inj this
   have hrun : (execOp ρ o).run P w = .ok (.value (.slice (some ⟨w.heap.size, 0, none⟩) str.size (grownCap w str.size 0 e))) (Lib.bytesWorld w e str) := by
    have := Lib.run_convert_string_bytes (P := P) w s dt e str g2 hud hue
    rw [<-hρx] at this
    simp only [execOp, ho, Sem.run_bind, this, Result.andThen_ok]
    rfl
   have hfr : (Lib.bytesWorld w e str).os = w.os /\ (Lib.bytesWorld w e str).tape = w.tape /\ (Lib.bytesWorld w e str).output = w.output := ⟨rfl, rfl, rfl⟩
   have ra := zDV (X := X) (p := p) hR (ob := Lib.bytesCells w e str) (t := e) (lo := (Lib.bytesCells w e str).size) (hi := (Lib.bytesCells w e str).size + 1) (id := id) (ver := zDd p.mem id) (z := 1) (cap := grownCap w str.size 0 e) (xs := zCp str) (pub := 0) (Lib.bytesWorld w e str) hheap hfr.1 hfr.2.1 hfr.2.2 (fun _ => Nat.le_refl _) (by omega) (fun cs hc => by
     unfold zCp at hc
     obtain ⟨b, _, rfl⟩ := List.mem_map.1 hc
     rfl) zD0 (Nat.zero_le _) (by rw [zCs]; exact hge) hle (by rw [hbc.1]; omega) (zDS str) hbc.2
   rw [zCs] at ra
   exact ⟨_, _, _, .inl hrun, ra.1, ra.2.1, ra.2.2⟩
  ·cases h
 ·cases h
theorem zMT (hT : TOk P T) (hR : RM X p w) {t i ver : Nat} {x : Operand} {lo hi : Option Operand} {ev : Ev} {o : Oper} {ρ : Operand -> Value} (ho : o.op = .slice t x lo hi none) (hx : zCQ p (CW X p w) w (.own i ver) (ρ x)) (hhi : ∀ y, hi = some y -> zAy p (CW X p w) w (ev y) (ρ y)) {ef : Ef}
  (h : zHA T p.mem t i ver (lo.map ev) (hi.map ev) = some ef) (hφ : ef.φ) : zJc P X p w o ρ ef := by
 unfold zHA at h
 split at h
 ·rename_i k n a b e s bv z xs hlo hhi' ht hb
  split at h
  ·rename_i ti hti
   cases hv : (Nat.beq bv ver && Nat.beq z ti.size) with
   | false => simp [hv] at h
   | true =>
    simp only [hv, cond_true, Option.some.injEq] at h
    subst h
    rw [Bool.and_eq_true] at hv
    obtain rfl := Nat.eq_of_beq_eq_true hv.1
    obtain rfl := Nat.eq_of_beq_eq_true hv.2
    obtain ⟨f0, f1⟩ := hφ
    have hu := zBI hT ht
    have hsz := (hT _ _ hti).size w
    obtain rfl : lo = none := Option.map_eq_none_iff.1 hlo
    obtain ⟨y, rfl, hy⟩ := Option.map_eq_some_iff.1 hhi'
    have hyv := hhi y rfl
    rw [hy] at hyv
    have hyv : ρ y = .int k n := zCu hyv
    have hbd : ∀ len cap : Nat, n <= cap -> (Instr.sliceBounds true len cap none (some (.int k n)) none).run P w = .ok (0, n.toNat, cap) w := fun len cap hc => by
     have := zCX (P := P) (w := w) (C := CW X p w) (p := p) (lo := none) (hi := some (.one (.e (.v (.int k n))))) (vlo := none) (vhi := some (.int k n)) (fun _ h => nomatch h) (fun _ => rfl) (fun x hx => ⟨_, rfl, by cases hx; exact zAF rfl⟩) (fun h => nomatch h) (len := len) (cap := cap) rfl rfl (Int.le_refl 0) f0 hc true
     exact this
    obtain ⟨hz0, hzx⟩ := zJA hR hb
    obtain ⟨_, blk, h1, h2, h3⟩ := hx
    rw [hb] at h1
    cases h1
    obtain ⟨z', n', q1, q2, q3⟩ := h3 rfl
    simp only [Body.shape, Prod.mk.injEq] at q1
    obtain ⟨rfl, rfl⟩ := q1
    rcases q3 with ⟨q3, A, hA⟩ | ⟨g, cap, g1, hA, g3, g4, g5⟩
    ·have hx0 : xs = [] := List.eq_nil_of_length_eq_zero q3
     subst hx0
     have hn : n = 0 := by simp at f1; omega
     subst hn
     have hg := hR.ghost (id := i) (ver := bv + 1) q2 (fun b hb' => by rw [hb] at hb'; cases hb'; exact Nat.lt_succ_self _)
     have hbd := hbd 0 0 (Int.le_refl 0)
     refine ⟨.slice A 0 0, w, upd p.μ i none, .inl ?_, hg.1, hg.2, rfl, _, zAn _ _ _, Nat.le_refl _, fun _ => ⟨ti.size, 0, rfl, q2, .inl ⟨rfl, A, rfl⟩⟩⟩
     simp only [execOp, ho, Sem.run_bind, Option.map_none, Option.map_some, hA, hyv]
     simp [Instr.sliceAt, Instr.slice, run_underlying hu, hbd, hsz]
    ·have hbo := hR.blk i _ hb
     simp only [zAP, g1] at hbo
     obtain ⟨_, b1, b2, b3, cur, et, lo', hi', b4, b5, b6, b7⟩ := hbo
     have hcl : (xs.take n.toNat).flatten.map D0.e ++ (xs.drop n.toNat).flatten.map D0.e = xs.flatten.map D0.e := by
      rw [<-List.map_append, <-List.flatten_append, List.take_append_drop]
     have hw := hR.write (blk' := ⟨bv + 1, .row ti.size (xs.take n.toNat), 0⟩) w hb g1 b4 b4 (fun _ _ => rfl) rfl rfl rfl rfl rfl (fun _ h => absurd h (Nat.not_lt_zero _)) (Nat.le_refl _) (Nat.zero_le _) (by
      have h6 : (xs.flatten.map D0.e).length <= cur.size := b6
      rw [<-hcl, List.length_append] at h6
      show ((xs.take n.toNat).flatten.map D0.e).length <= cur.size
      omega) ⟨q2, fun cs hc => hzx cs (List.mem_of_mem_take hc)⟩ (Nat.le_succ _) (fun e => absurd e (Nat.ne_of_lt (Nat.lt_succ_self _))) (fun j x hj => b7 j x (by
       have hj : ((xs.take n.toNat).flatten.map D0.e)[j]? = some x := hj
       show (xs.flatten.map D0.e)[j]? = some x
       rw [<-hcl, List.getElem?_append_left (List.getElem?_eq_some_iff.1 hj).1]
       exact hj))
     have hbd := hbd xs.length cap (by omega)
     have hlen : (xs.take n.toNat).length = n.toNat := by rw [List.length_take]; omega
     refine ⟨.slice (some ⟨g, 0, none⟩) n.toNat cap, w, p.μ, .inl ?_, hw.1, hw.2, rfl, _, zAn _ _ _, Nat.le_refl _, fun _ => ⟨ti.size, (xs.take n.toNat).length, rfl, q2, .inr ⟨g, cap, g1, by rw [hlen], by omega, g4, g5⟩⟩⟩
     simp only [execOp, ho, Sem.run_bind, Option.map_none, Option.map_some, hA, hyv]
     simp [Instr.sliceAt, Instr.slice, run_underlying hu, hbd, hsz, zCz]
  ·cases h
 ·cases h
theorem zKL (hT : TOk P T) (hR : RM X p w) {t : Nat} {x : Operand} {lo hi : Option Operand} {ev : Ev} {o : Oper} {ρ : Operand -> Value} (ho : o.op = .slice t x lo hi none) (hx : zAy p (CW X p w) w (ev x) (ρ x)) (hlo : ∀ y, lo = some y -> zAy p (CW X p w) w (ev y) (ρ y)) (hhi : ∀ y, hi = some y -> zAy p (CW X p w) w (ev y) (ρ y)) {ef : Ef}
  (h : zDq T p.mem t (ev x) (lo.map ev) (hi.map ev) = some ef) (hφ : ef.φ) : zJc P X p w o ρ ef := by
 have fin : ∀ {p' : Rho} {y : D} {φ : Prop} {d : D}, Kept p (CW X p w) w p' (CW X p' w) w -> zAy p' (CW X p' w) w y (ρ x) -> zEr T t y (lo.map ev) (hi.map ev) = some (φ, d) -> φ -> ∃ v, (execOp ρ o).run P w = .ok (.value v) w /\ zAy p' (CW X p' w) w d v := by
  intro p' y φ d hk hy hs hφ
  obtain ⟨v, h1, h2⟩ := zHD (P := P) (vlo := lo.map ρ) (vhi := hi.map ρ) hT hy (fun y hy => by
    obtain ⟨z, rfl, rfl⟩ := Option.map_eq_some_iff.1 hy
    exact ⟨_, rfl, (hlo z rfl).kept hk⟩) (fun hn => by simp at hn; simp [hn]) (fun y hy => by
    obtain ⟨z, rfl, rfl⟩ := Option.map_eq_some_iff.1 hy
    exact ⟨_, rfl, (hhi z rfl).kept hk⟩) (fun hn => by simp at hn; simp [hn]) hs hφ
  exact ⟨v, by simp only [execOp, ho, Sem.run_bind, Option.map_none, h1]; rfl, h2⟩
 unfold zDq at h
 split at h
 ·rename_i i ver he
  rw [he] at hx
  split at h
  ·rename_i ef' hf
   cases h
   exact zMT hT hR ho hx hhi hf hφ
  ·split at h
   ·rename_i e us hf
    rw [Option.map_eq_some_iff] at h
    obtain ⟨⟨φ, d⟩, h1, rfl⟩ := h
    obtain ⟨m, μ⟩ := p
    obtain ⟨r1, r2, r3, r4⟩ := RM.pubs us m hR (zMr hf)
    obtain ⟨v, k1, k2⟩ := fin (y := .one (.e e)) r2 (zIG r1 (zCQ.kept r2 hx) hf r3) h1 hφ
    exact ⟨v, w, μ, .inl k1, r1, r2, k2⟩
   ·cases h
 ·rename_i he
  rw [he] at hx
  rw [Option.map_eq_some_iff] at h
  obtain ⟨⟨φ, d⟩, h1, rfl⟩ := h
  obtain ⟨m, μ⟩ := p
  have hnil : RepE (CW X ⟨m, μ⟩ w) (.sl []) (ρ x) := by
   rw [show ρ x = .slice none 0 0 from hx]
   exact RepE.sl none 0 0 0 0 0 (fun _ _ => undef) [] rfl (Nat.le_refl _) (Nat.zero_le _) (fun h => absurd h (by omega)) (fun cs hc => nomatch hc) (fun i cs j e hi => nomatch hi) (fun i cs j e hi => nomatch hi)
  obtain ⟨v, k1, k2⟩ := fin (p' := ⟨m, μ⟩) (y := .one (.e (.sl []))) Kept.rfl' hnil h1 hφ
  exact ⟨v, w, μ, .inl k1, hR, Kept.rfl', k2⟩
 ·rename_i id ver off he
  rw [he] at hx
  split at h
  ·rename_i a b len e z ht
   have hu := zH4 hT ht
   split at h
   ·rename_i ti l h' bv c pub hti hl hh hb
    have hsz := (hT _ _ hti).size w
    cases hv : Nat.beq bv ver with
    | false => simp [hv] at h
    | true =>
     obtain rfl := Nat.eq_of_beq_eq_true hv
     simp only [hv, cond_true, Option.some.injEq] at h
     subst h
     obtain ⟨f0, f1, f2, f3, f4, f5, f6⟩ := hφ
     obtain ⟨h0, blk, h1, h2, h3⟩ := hx
     rw [hb] at h1
     cases h1
     obtain ⟨g, hg, hvx⟩ := h3 rfl
     have hbd := zCX (P := P) (w := w) (C := CW X p w) (p := p) (vlo := lo.map ρ) (vhi := hi.map ρ) (fun y hy => by
      obtain ⟨z, rfl, rfl⟩ := Option.map_eq_some_iff.1 hy
      exact ⟨_, rfl, hlo z rfl⟩) (fun hn => by simp at hn; simp [hn]) (fun y hy => by
      obtain ⟨z, rfl, rfl⟩ := Option.map_eq_some_iff.1 hy
      exact ⟨_, rfl, hhi z rfl⟩) (fun hn => by simp at hn; simp [hn]) hl hh f0 f2 f3 false
     have hne : len ≠ l.toNat := by omega
     refine ⟨.slice (some ⟨g, off + l.toNat * ti.size, none⟩) (h'.toNat - l.toNat) (len - l.toNat), w, p.μ, .inl ?_, hR, Kept.rfl', rfl, _, hb, Nat.le_refl _, fun _ => ⟨f6, ?_, g, len - l.toNat, hg, ?_, ?_, ?_⟩⟩
     ·simp only [execOp, ho, Sem.run_bind, Option.map_none, hvx]
      simp [Instr.sliceAt, run_underlying hu, Instr.sureAddr, hbd, hsz, hne, zCz]
     ·have e1 : (h' - l).toNat <= len - l.toNat := by omega
      have e2 : (h' - l).toNat * ti.size <= (len - l.toNat) * ti.size := Nat.mul_le_mul_right _ e1
      have e3 : (len - l.toNat) * ti.size + l.toNat * ti.size = len * ti.size := by rw [<-Nat.add_mul]; congr 1; omega
      simp only [Body.shape]
      rw [Cs.len_eq]
      omega
     ·rw [show (h' - l).toNat = h'.toNat - l.toNat by omega]
     ·omega
     ·simp only [maxLen]
      omega
   ·cases h
  ·cases h
 ·cases h
theorem zJD {C : Nat -> Nat -> Value -> Prop} {es : List E} {zs : List Value} (h : zBA p C w (es.map .e) zs) : ∀ n, zBA p C w ((List.replicate n es).flatten.map .e) (List.replicate n zs).flatten
 | 0 => ⟨rfl, (fun i x u h => nomatch h)⟩
 | n + 1 => by
  simp only [List.replicate_succ, List.flatten_cons, List.map_append]
  exact zAZ h (zJD h n)
theorem zLX {z : Nat} {zs : List Value} (hl : zs.length = z) (h0 : 0 < z) : ∀ (n i : Nat) u, (List.replicate n zs).flatten[i]? = some u -> i < n * z /\ zs[i % z]? = some u
 | 0, i, u, h => by simp at h
 | n + 1, i, u, h => by
  simp only [List.replicate_succ, List.flatten_cons] at h
  by_cases hi : i < zs.length
  ·rw [List.getElem?_append_left hi] at h
   rw [Nat.succ_mul, Nat.mod_eq_of_lt (by omega)]
   exact ⟨by omega, h⟩
  ·rw [List.getElem?_append_right (by omega)] at h
   obtain ⟨h1, h2⟩ := zLX hl h0 n _ u h
   rw [Nat.succ_mul]
   refine ⟨by omega, ?_⟩
   rw [hl] at h2 hi
   rw [Nat.mod_eq_sub_mod (by omega)]
   exact h2
theorem zM6 {z : Nat} (xs : List (List E)) (hz : ∀ cs ∈ xs, cs.length = z) {i j n : Nat} {ys : List E} (hi : i < xs.length) (hj : j + n <= z) (hy : ys.length = n) :
  (zF0 xs i j n ys).flatten = xs.flatten.take (i * z + j) ++ ys ++ xs.flatten.drop (i * z + j + n) /\ (∀ cs ∈ zF0 xs i j n ys, cs.length = z) /\ (zF0 xs i j n ys).length = xs.length := by
 have hx : xs.getD i [] = xs[i] := by simp [List.getD_eq_getElem?_getD, hi]
 have hlen := hz _ (List.getElem_mem hi)
 have hsp : xs = xs.take i ++ xs[i] :: xs.drop (i + 1) := by rw [List.getElem_cons_drop, List.take_append_drop]
 have hl1 : (xs.take i).flatten.length = i * z := by
  rw [zAz _ (fun cs hc => hz cs (List.mem_of_mem_take hc)), List.length_take, Nat.min_eq_left (Nat.le_of_lt hi)]
 have hf : xs.flatten = (xs.take i).flatten ++ (xs[i] ++ (xs.drop (i + 1)).flatten) := by
  have := congrArg List.flatten hsp
  rw [List.flatten_append, List.flatten_cons] at this
  exact this
 refine ⟨?_, fun cs hc => ?_, by simp [zF0]⟩
 ·unfold zF0
  rw [hx, List.set_eq_take_append_cons_drop, if_pos hi, List.flatten_append, List.flatten_cons, hf]
  generalize (xs.take i).flatten = A at hl1
  generalize xs[i] = B at hlen
  generalize (xs.drop (i + 1)).flatten = C
  have e1 : (A ++ (B ++ C)).take (i * z + j) = A ++ B.take j := by
   rw [List.take_append, hl1, List.take_of_length_le (by omega), show i * z + j - i * z = j by omega, List.take_append, hlen, show j - z = 0 by omega]
   simp
  have e2 : (A ++ (B ++ C)).drop (i * z + j + n) = B.drop (j + n) ++ C := by
   rw [List.drop_append, hl1, List.drop_of_length_le (by omega), show i * z + j + n - i * z = j + n by omega, List.drop_append, hlen, show j + n - z = 0 by omega]
   simp
  rw [e1, e2]
  simp [List.append_assoc]
 ·unfold zF0 at hc
  rcases List.mem_or_eq_of_mem_set hc with hc | rfl
  ·exact hz cs hc
  ·rw [hx]
   simp only [List.length_append, List.length_take, List.length_drop, hlen, hy]
   omega
theorem zPx (hR : RM X p w) {id bv pub g off k : Nat} {b c : Cs} {us : List Value} (hb : p.mem id = some ⟨bv, .box b, pub⟩) (hg : p.μ id = some g) (hcs : zBA p (CW X p w) w c.d0 us) (f1 : c.len = k) (f2 : off + k <= b.len) (f3 : pub <= off)
  {cur : Array Value} {et : TypeId} {lo hi : Nat} (b4 : w.heap[g]? = some (.cells cur et (lo, hi))) (b6 : b.len <= cur.size) (b3 : pub <= b.len) :
  RM X ⟨upd p.mem id (some ⟨bv, .box (b.put off k c), pub⟩), p.μ⟩ (w.setRow g (cur.toList.take off ++ us ++ cur.toList.drop (off + k)).toArray) ∧
   Kept p (CW X p w) w ⟨upd p.mem id (some ⟨bv, .box (b.put off k c), pub⟩), p.μ⟩ (CW X ⟨upd p.mem id (some ⟨bv, .box (b.put off k c), pub⟩), p.μ⟩ (w.setRow g (cur.toList.take off ++ us ++ cur.toList.drop (off + k)).toArray)) (w.setRow g (cur.toList.take off ++ us ++ cur.toList.drop (off + k)).toArray) := by
 have hsz : us.length = k := by
  have := hcs.1
  rw [Cs.len_eq, f1] at this
  exact this.symm
 have htl : (cur.toList.take off).length = off := by simp; omega
 have hcz : (cur.toList.take off ++ us ++ cur.toList.drop (off + k)).toArray.size = cur.size := by
  simp only [List.size_toArray, List.length_append, List.length_take, List.length_drop, Array.length_toList, hsz]
  omega
 have hlen : (b.put off k c).d0.length = b.len := by
  rw [Cs.put_d0]
  simp only [List.length_append, List.length_take, List.length_drop, Cs.len_eq, f1]
  omega
 have hm := zE8 hR hb hg
 obtain ⟨olds, o1, o2⟩ := hm.list
 have holdl : olds.length = b.len := by rw [<-o1.1]; exact Cs.len_eq b
 have hput : zBA p (CW X p w) w (b.put off k c).d0 (olds.take off ++ us ++ olds.drop (off + k)) := by
  rw [Cs.put_d0]
  exact zAZ (zAZ (zDj o1 _) hcs) (zDW o1 _)
 have hcur : ∀ (i : Nat) u, olds[i]? = some u -> cur[i]? = some u := fun i u hu => by
  have := o2 i u hu
  rw [Nat.zero_add, zCN b4] at this
  exact this
 exact hR.write (blk' := ⟨bv, .box (b.put off k c), pub⟩) (w.setRow g (cur.toList.take off ++ us ++ cur.toList.drop (off + k)).toArray) hb hg b4 (setRow_heap w g cur _ et _ b4) (fun k hk => setRow_other w g k _ hk) (by simp [World.setRow]) rfl rfl rfl hcz (fun q hq => by
  have hq : q < off := Nat.lt_of_lt_of_le hq f3
  simp only [List.getElem?_toArray]
  rw [List.append_assoc, List.getElem?_append_left (by rw [htl]; exact hq), List.getElem?_take_of_lt hq]
  simp) (Nat.le_refl _) (by show pub <= (b.put off k c).d0.length; rw [hlen]; exact b3) (by show (b.put off k c).d0.length <= _; rw [hlen]; exact b6) trivial (Nat.le_refl _) (fun _ => by
   show (0, (b.put off k c).d0.length) = (0, b.d0.length)
   rw [hlen, Cs.len_eq]) (fun q y hy => by
   have hql : q < (olds.take off ++ us ++ olds.drop (off + k)).length := by rw [<-hput.1]; exact (List.getElem?_eq_some_iff.1 hy).1
   have hu := List.getElem?_eq_getElem hql
   refine ⟨_, ?_, hput.2 q y _ hy hu⟩
   simp only [List.getElem?_toArray]
   generalize (olds.take off ++ us ++ olds.drop (off + k))[q] = u at hu
   rw [List.append_assoc] at hu ⊢
   by_cases hq : q < off
   ·rw [List.getElem?_append_left (by simp; omega), List.getElem?_take_of_lt hq] at hu
    rw [List.getElem?_append_left (by rw [htl]; exact hq), List.getElem?_take_of_lt hq]
    have := hcur q u hu
    simpa using this
   ·rw [List.getElem?_append_right (by simp; omega)] at hu
    rw [List.getElem?_append_right (by rw [htl]; omega), htl]
    have hto : (olds.take off).length = off := by simp; omega
    rw [hto] at hu
    by_cases hq2 : q - off < us.length
    ·rw [List.getElem?_append_left hq2] at hu ⊢
     exact hu
    ·rw [List.getElem?_append_right (by omega)] at hu ⊢
     rw [List.getElem?_drop] at hu ⊢
     have := hcur _ u hu
     simpa using this)
theorem zPh (hT : TOk P T) (hR : RM X p w) {t tx : Nat} {x y : Operand} {dx dy : D} {o : Oper} {ρ : Operand -> Value} (ho : o.op = .call ⟨.builtin .copy, #[x, y], #[t, tx]⟩) (hx : zAy p (CW X p w) w dx (ρ x)) (hy : zAy p (CW X p w) w dy (ρ y)) {ef : Ef}
  (h : zFJ T p.mem t tx dx dy = some ef) (hφ : ef.φ) : zJc P X p w o ρ ef := by
 unfold zFJ at h
 split at h
 ·rename_i a b' e z' tix id ver off z n ht htx
  have hu := zBI hT ht
  split at h
  ·rename_i ti bv b pub φ ys hti hb hs
   cases hv : (Nat.beq bv ver && Nat.beq ti.size z) with
   | false => simp [hv] at h
   | true =>
    simp only [hv, cond_true, Option.some.injEq] at h
    subst h
    simp only [Bool.and_eq_true] at hv
    obtain rfl := Nat.eq_of_beq_eq_true hv.1
    obtain rfl := Nat.eq_of_beq_eq_true hv.2
    obtain ⟨f1, f2⟩ := hφ
    obtain ⟨s1, s2, news, s3, s4⟩ := zN8 hT hR htx hy hs f1
    have hsz := (hT _ _ hti).size w
    obtain ⟨_, blk, h1, h2, h3⟩ := hx
    rw [hb] at h1
    cases h1
    obtain ⟨z0, z1, g, cap, hg, hvx, g3, g4⟩ := h3 rfl
    simp only [Body.shape] at z1
    rw [Cs.len_eq] at z1
    have hbo := hR.blk id _ hb
    simp only [zAP, hg] at hbo
    obtain ⟨_, b1, b2, b3, cur, et, lo, hi, b4, b5, b6, b7⟩ := hbo
    simp only [Blk.cells, Body.cells, Cs.len_eq] at b3 b6 b7
    have hk1 : min n ys.length <= ys.length := Nat.min_le_right _ _
    have hk2 : min n ys.length <= n := Nat.min_le_left _ _
    have hmk : Nat.min ys.length n = min n ys.length := Nat.min_comm _ _
    generalize min n ys.length = k at hk1 hk2 hmk ⊢
    have hkz : k * ti.size <= n * ti.size := Nat.mul_le_mul_right _ hk2
    have hnl : news.length = ys.length * ti.size := by rw [<-s3.1, List.length_map, zAz ys s2]
    have hkn : k * ti.size <= news.length := by rw [hnl]; exact Nat.mul_le_mul_right _ hk1
    have hfl : (ys.take k).flatten = ys.flatten.take (k * ti.size) := by
     have e1 : ys.flatten = (ys.take k).flatten ++ (ys.drop k).flatten := by rw [<-List.flatten_append, List.take_append_drop]
     have e2 : (ys.take k).flatten.length = k * ti.size := by rw [zAz _ (fun cs hc => s2 cs (List.mem_of_mem_take hc)), List.length_take, Nat.min_eq_left hk1]
     rw [e1, List.take_left' e2]
    have hrep : zBA p (CW X p w) w (Cs.es (ys.take k).flatten).d0 (news.take (k * ti.size)) := by
     have := zDj s3 (k * ti.size)
     rw [<-List.map_take, <-hfl] at this
     exact this
    have hlen : (Cs.es (ys.take k).flatten).len = k * ti.size := by
     rw [<-Cs.len_eq, hrep.1, List.length_take]
     omega
    have hst := zCK (P := P) (g := g) (o := off) (lo := lo) (hi := hi) (t := et) (news.take (k * ti.size)) 0 cur w b4 b5 (by rw [List.length_take]; omega) (zGc hrep)
    have hln : (news.take (k * ti.size)).length = k * ti.size := by rw [List.length_take]; omega
    rw [Nat.add_zero, hln] at hst
    have hw := zPx hR hb hg hrep hlen (by omega) f2 b4 b6 b3
    refine ⟨.int .i64 (k : Int), _, p.μ, .inl ?_, hw.1, hw.2, zAF rfl⟩
    simp [execOp, ho, resolve, invoke, builtin, Builtin.copy_, run_underlying hu, hvx, s1, hsz, hmk, s4 k hk1, hst, goInt]
  ·cases h
 ·cases h
theorem zM0 (hT : TOk P T) (hR : RM X p w) {t : Nat} {ti : TI} (hti : T t = some ti) {a x : Operand} {da dx : D} {o : Oper} {ρ : Operand -> Value} (ho : o.op = .store t a x) (ha : zAy p (CW X p w) w da (ρ a)) (hx : zAy p (CW X p w) w dx (ρ x)) {ef : Ef}
  (h : zEq ti p.mem da dx = some ef) (hφ : ef.φ) : zJc P X p w o ρ ef := by
 have htik := hT _ _ hti
 have hstore : ∀ {g off : Nat} {cur : Array Value} {et : TypeId} {lo hi : Nat}, w.heap[g]? = some (.cells cur et (lo, hi)) -> (lo < hi -> cur.size <= lo) -> ρ a = .pointer (some ⟨g, off, none⟩) -> (ρ x).cells.size = ti.size -> off + ti.size <= cur.size -> (∀ u ∈ (ρ x).cells.toList, u.oneCell' = true) ->
   (execOp ρ o).run P w = .ok .skip (w.setRow g (cur.toList.take off ++ (ρ x).cells.toList ++ cur.toList.drop (off + ti.size)).toArray) := by
  intro g off cur et lo hi h1 h2 h3 h4 h5 h6
  have hst := zCK (P := P) (g := g) (o := off) (lo := lo) (hi := hi) (t := et) (ρ x).cells.toList 0 cur w h1 h2 (by simpa [h4] using h5) h6
  simp only [Nat.add_zero, Array.length_toList, h4] at hst
  simp only [execOp, ho, Sem.run_bind, Instr.storeAt, h3, Instr.sureAddr, Sem.run_pure, Result.andThen_ok, storeVar, htik.size]
  rw [if_neg (by rw [h4]; simp), hst]
  rfl
 unfold zEq at h
 split at h
 ·cases h
 ·rename_i c hc
  have hcs := zJB hx hc
  split at h
  ·rename_i id ver off
   split at h
   ·rename_i bv b pub hb
    cases hv : Nat.beq bv ver with
    | false => simp [hv] at h
    | true =>
     obtain rfl := Nat.eq_of_beq_eq_true hv
     simp only [hv, cond_true, Option.some.injEq] at h
     subst h
     obtain ⟨f1, f2, f3⟩ := hφ
     obtain ⟨_, blk, h1, h2, h3⟩ := ha
     rw [hb] at h1
     cases h1
     obtain ⟨g, hg, hρa⟩ := h3 rfl
     have hbo := hR.blk id _ hb
     simp only [zAP, hg] at hbo
     obtain ⟨_, b1, b2, b3, cur, et, lo, hi, b4, b5, b6, b7⟩ := hbo
     simp only [Blk.cells, Body.cells, Cs.len_eq] at b3 b6 b7
     have hsz : (ρ x).cells.size = ti.size := by
      have := hcs.1
      rw [Cs.len_eq, f1] at this
      simpa using this.symm
     have hrun := hstore b4 b5 hρa hsz (by omega) (zGc hcs)
     have htl : (cur.toList.take off).length = off := by simp; omega
     have hcz : (cur.toList.take off ++ (ρ x).cells.toList ++ cur.toList.drop (off + ti.size)).toArray.size = cur.size := by
      simp only [List.size_toArray, List.length_append, List.length_take, List.length_drop, Array.length_toList, hsz]
      omega
     have hlen : (b.put off ti.size c).d0.length = b.len := by
      rw [Cs.put_d0]
      simp only [List.length_append, List.length_take, List.length_drop, Cs.len_eq, f1]
      omega
     have hm := zE8 hR hb hg
     obtain ⟨olds, o1, o2⟩ := hm.list
     have holdl : olds.length = b.len := by rw [<-o1.1]; exact Cs.len_eq b
     have hput : zBA p (CW X p w) w (b.put off ti.size c).d0 (olds.take off ++ (ρ x).cells.toList ++ olds.drop (off + ti.size)) := by
      rw [Cs.put_d0]
      exact zAZ (zAZ (zDj o1 _) hcs) (zDW o1 _)
     have hcur : ∀ (i : Nat) u, olds[i]? = some u -> cur[i]? = some u := fun i u hu => by
      have := o2 i u hu
      rw [Nat.zero_add, zCN b4] at this
      exact this
     have hw := hR.write (blk' := ⟨bv, .box (b.put off ti.size c), pub⟩) (w.setRow g (cur.toList.take off ++ (ρ x).cells.toList ++ cur.toList.drop (off + ti.size)).toArray) hb hg b4 (setRow_heap w g cur _ et _ b4) (fun k hk => setRow_other w g k _ hk) (by simp [World.setRow]) rfl rfl rfl hcz (fun q hq => by
      have hq : q < off := Nat.lt_of_lt_of_le hq f3
      simp only [List.getElem?_toArray]
      rw [List.append_assoc, List.getElem?_append_left (by rw [htl]; exact hq), List.getElem?_take_of_lt hq]
      simp) (Nat.le_refl _) (by show pub <= (b.put off ti.size c).d0.length; rw [hlen]; exact b3) (by show (b.put off ti.size c).d0.length <= _; rw [hlen]; exact b6) trivial (Nat.le_refl _) (fun _ => by
       show (0, (b.put off ti.size c).d0.length) = (0, b.d0.length)
       rw [hlen, Cs.len_eq]) (fun q y hy => by
       have hql : q < (olds.take off ++ (ρ x).cells.toList ++ olds.drop (off + ti.size)).length := by rw [<-hput.1]; exact (List.getElem?_eq_some_iff.1 hy).1
       have hu := List.getElem?_eq_getElem hql
       refine ⟨_, ?_, hput.2 q y _ hy hu⟩
       simp only [List.getElem?_toArray]
       generalize (olds.take off ++ (ρ x).cells.toList ++ olds.drop (off + ti.size))[q] = u at hu
       rw [List.append_assoc] at hu ⊢
       by_cases hq : q < off
       ·rw [List.getElem?_append_left (by simp; omega), List.getElem?_take_of_lt hq] at hu
        rw [List.getElem?_append_left (by rw [htl]; exact hq), List.getElem?_take_of_lt hq]
        have := hcur q u hu
        simpa using this
       ·rw [List.getElem?_append_right (by simp; omega)] at hu
        rw [List.getElem?_append_right (by rw [htl]; omega), htl]
        have hto : (olds.take off).length = off := by simp; omega
        rw [hto] at hu
        by_cases hq2 : q - off < (ρ x).cells.toList.length
        ·rw [List.getElem?_append_left hq2] at hu ⊢
         exact hu
        ·rw [List.getElem?_append_right (by omega)] at hu ⊢
         rw [List.getElem?_drop] at hu ⊢
         have := hcur _ u hu
         simpa using this)
     exact ⟨undef, _, p.μ, .inr ⟨hrun, rfl⟩, hw.1, hw.2, trivial⟩
   ·cases h
  ·rename_i id ver i j
   split at h
   ·rename_i bv z xs pub es us hb hf
    cases hv : (Nat.beq bv ver && us.all (fun u => !Nat.beq u.1 id)) with
    | false => simp [hv] at h
    | true =>
     simp only [hv, cond_true, Option.some.injEq] at h
     simp only [Bool.and_eq_true] at hv
     obtain rfl := Nat.eq_of_beq_eq_true hv.1
     subst h
     obtain ⟨f1, f2, f3, f4⟩ := hφ
     obtain ⟨m, μ⟩ := p
     obtain ⟨r1, r2, r3, r4⟩ := RM.pubs us m hR (zIH hf)
     have hb' : zBd m us id = some ⟨bv, .row z xs, pub⟩ := by rw [r4 id (zR4 hv.2)]; exact hb
     obtain ⟨hz0, hzx⟩ := zJA hR hb
     obtain ⟨_, blk, h1, h2, h3⟩ := ha
     rw [hb] at h1
     cases h1
     obtain ⟨g, hg, hρa⟩ := h3 rfl
     simp only [Body.shape] at hρa
     have hcs' := zEm r1 (hcs.kept r2) hf r3
     have hg : μ id = some g := hg
     have hbo := r1.blk id _ hb'
     simp only [zAP, hg] at hbo
     obtain ⟨_, b1, b2, b3, cur, et, lo, hi, b4, b5, b6, b7⟩ := hbo
     simp only [Blk.cells, Body.cells, List.length_map, zAz xs hzx] at b3 b6
     have hsz : (ρ x).cells.size = ti.size := by
      have := hcs'.1
      rw [List.length_map, f1] at this
      simpa using this.symm
     have hil : (i + 1) * z <= xs.length * z := Nat.mul_le_mul_right _ f3
     rw [Nat.succ_mul] at hil
     have hrun := hstore b4 b5 hρa hsz (by omega) (zGc hcs)
     obtain ⟨s1, s2, s3⟩ := zM6 xs hzx (j := j) (n := ti.size) (ys := es) f3 f2 f1
     obtain ⟨off, hoff⟩ : ∃ off, off = i * z + j := ⟨_, rfl⟩
     rw [<-hoff] at hrun s1 f4
     have hofl : off + ti.size <= xs.length * z := by omega
     have htl : (cur.toList.take off).length = off := by simp; omega
     have hcz : (cur.toList.take off ++ (ρ x).cells.toList ++ cur.toList.drop (off + ti.size)).toArray.size = cur.size := by
      simp only [List.size_toArray, List.length_append, List.length_take, List.length_drop, Array.length_toList, hsz]
      omega
     have hm := zE8 r1 hb' hg
     obtain ⟨olds, o1, o2⟩ := hm.list
     have holdl : olds.length = xs.length * z := by
      rw [<-o1.1]
      show (xs.flatten.map D0.e).length = _
      rw [List.length_map, zAz xs hzx]
     have hput : zBA ⟨zBd m us, μ⟩ (CW X ⟨zBd m us, μ⟩ w) w ((zF0 xs i j ti.size es).flatten.map .e) (olds.take off ++ (ρ x).cells.toList ++ olds.drop (off + ti.size)) := by
      rw [s1, List.map_append, List.map_append, List.map_take, List.map_drop]
      exact zAZ (zAZ (zDj o1 _) hcs') (zDW o1 _)
     have hcur : ∀ (i : Nat) u, olds[i]? = some u -> cur[i]? = some u := fun i u hu => by
      have := o2 i u hu
      rw [Nat.zero_add, zCN b4] at this
      exact this
     have hw := r1.write (blk' := ⟨bv, .row z (zF0 xs i j ti.size es), pub⟩) (w.setRow g (cur.toList.take off ++ (ρ x).cells.toList ++ cur.toList.drop (off + ti.size)).toArray) hb' hg b4 (setRow_heap w g cur _ et _ b4) (fun k hk => setRow_other w g k _ hk) (by simp [World.setRow]) rfl rfl rfl hcz (fun q hq => by
      have hq : q < off := Nat.lt_of_lt_of_le hq f4
      simp only [List.getElem?_toArray]
      rw [List.append_assoc, List.getElem?_append_left (by rw [htl]; exact hq), List.getElem?_take_of_lt hq]
      simp) (Nat.le_refl _) (by
       show pub <= ((zF0 xs i j ti.size es).flatten.map D0.e).length
       rw [List.length_map, zAz _ s2, s3]; exact b3) (by
       show ((zF0 xs i j ti.size es).flatten.map D0.e).length <= _
       rw [List.length_map, zAz _ s2, s3]; exact b6) ⟨hz0, s2⟩ (Nat.le_refl _) (fun _ => by
       show (z, (zF0 xs i j ti.size es).length) = (z, xs.length)
       rw [s3]) (fun q y hy => by
       have hql : q < (olds.take off ++ (ρ x).cells.toList ++ olds.drop (off + ti.size)).length := by rw [<-hput.1]; exact (List.getElem?_eq_some_iff.1 hy).1
       have hu := List.getElem?_eq_getElem hql
       refine ⟨_, ?_, hput.2 q y _ hy hu⟩
       simp only [List.getElem?_toArray]
       generalize (olds.take off ++ (ρ x).cells.toList ++ olds.drop (off + ti.size))[q] = u at hu
       rw [List.append_assoc] at hu ⊢
       by_cases hq : q < off
       ·rw [List.getElem?_append_left (by simp; omega), List.getElem?_take_of_lt hq] at hu
        rw [List.getElem?_append_left (by rw [htl]; exact hq), List.getElem?_take_of_lt hq]
        have := hcur q u hu
        simpa using this
       ·rw [List.getElem?_append_right (by simp; omega)] at hu
        rw [List.getElem?_append_right (by rw [htl]; omega), htl]
        have hto : (olds.take off).length = off := by simp; omega
        rw [hto] at hu
        by_cases hq2 : q - off < (ρ x).cells.toList.length
        ·rw [List.getElem?_append_left hq2] at hu ⊢
         exact hu
        ·rw [List.getElem?_append_right (by omega)] at hu ⊢
         rw [List.getElem?_drop] at hu ⊢
         have := hcur _ u hu
         simpa using this)
     refine ⟨undef, _, μ, .inr ⟨hrun, rfl⟩, ?_⟩
     simp only [zDG]
     exact ⟨hw.1, r2.trans hw.2, trivial⟩
   ·cases h
  ·cases h
theorem zOR (hT : TOk P T) (hR : RM X p w) {t id : Nat} {l c : Operand} {dl dc : D} {o : Oper} {ρ : Operand -> Value} (ho : o.op = .makeSlice t l c) (hl : zAy p (CW X p w) w dl (ρ l)) (hc : zAy p (CW X p w) w dc (ρ c)) {ef : Ef}
  (h : zFG T p.mem id t dl dc = some ef) (hφ : ef.φ) : zJc P X p w o ρ ef := by
 unfold zFG at h
 split at h
 ·rename_i a b e z k1 n k2 k ht
  have hu := zBI hT ht
  have hρl := zCu hl
  have hρc := zCu hc
  split at h
  ·rename_i ti hti
   have htik := hT _ _ hti
   split at h
   ·rename_i es hf
    cases hz : Nat.beq ti.size 0 with
    | true => simp [hz] at h
    | false =>
     have hz0 : 0 < ti.size := Nat.pos_of_ne_zero fun e => by rw [e] at hz; cases hz
     simp only [hz, cond_false, Option.some.injEq] at h
     subst h
     obtain ⟨f1, f2, f3, f4, f5⟩ := hφ
     obtain ⟨i0, d0, zv, i1, i2, i3, i4, i5, i6, hz2, i8⟩ := htik.out
     have hzr := zD9 (p := p) (C := CW X p w) (w := w) (zF9 htik)
     obtain ⟨m, μ⟩ := p
     have hes := zEm hR hzr hf (fun u hu => nomatch hu)
     have hzs : zv.cells.size = ti.size := by rw [<-Array.length_toList, hz2, htik.len]
     obtain ⟨kn, rfl⟩ := Int.eq_ofNat_of_zero_le (show 0 <= k by omega)
     obtain ⟨nn, rfl⟩ := Int.eq_ofNat_of_zero_le f1
     obtain ⟨ob, hob⟩ : ∃ ob : Array Value, ob = madeCells zv.cells (kn * ti.size) := ⟨_, rfl⟩
     have hkb : (i0.bytes : Int) * kn <= 281474976710656 := by rw [i4, Int.mul_comm]; omega
     have hrun : (execOp ρ o).run P w = .ok (.value (.slice (some ⟨w.heap.size, 0, none⟩) nn kn)) (w.alloc (.cells ob e)) := by
      have hb := run_make (P := P) w t e i0 zv hu i1 i6 k1 k2 nn kn f1 f2 hkb (by omega)
      rw [Int.toNat_natCast, Int.toNat_natCast, i3, <-hob] at hb
      simp only [execOp, ho, Sem.run_bind, hρl, hρc, hb, Result.andThen_ok]
      rfl
     have hzl : ti.zero.length = ti.size := htik.len
     have hobs : ob.size = kn * ti.size := by rw [hob, size_madeCells]
     have hrep := zJD hes nn
     have hpre : ∀ (i : Nat) u, (List.replicate nn ti.zero).flatten[i]? = some u -> ob[i]? = some u := fun i u hu => by
      obtain ⟨q1, q2⟩ := zLX hzl hz0 nn i u hu
      have hle : nn * ti.size <= kn * ti.size := Nat.mul_le_mul_right _ (by omega)
      have hil : i % ti.size < zv.cells.size := by rw [hzs]; exact Nat.mod_lt _ hz0
      rw [hob, madeCells, Array.getElem?_map, Array.getElem?_range, if_pos (by omega)]
      simp only [Option.map_some, hzs]
      rw [getElem!_pos zv.cells (i % ti.size) hil]
      rw [<-hz2] at q2
      rw [Array.getElem?_toList, Array.getElem?_eq_getElem hil] at q2
      exact q2
     have ra := zDV (X := X) (p := ⟨m, μ⟩) hR (ob := ob) (t := e) (lo := 0) (hi := 0) (id := id) (ver := zDd m id) (z := ti.size) (cap := kn) (xs := List.replicate nn es) (pub := 0) (w.alloc (.cells ob e)) rfl rfl rfl rfl (by omega) hz0 (fun cs hc => by rw [List.eq_of_mem_replicate hc]; exact f5) zD0 (Nat.zero_le _) (by rw [List.length_replicate]; omega) (by simp only [maxLen]; omega) (by rw [hobs]; exact Nat.le_refl _) hrep hpre
     rw [List.length_replicate] at ra
     exact ⟨_, _, _, .inl hrun, ra.1, ra.2.1, ra.2.2⟩
   ·cases h
  ·cases h
 ·cases h
theorem zNE (s : ByteArray) (pos : Nat) (h : pos < s.size) : 1 <= (Utf8.decode s pos).2 := by
 rcases Nat.lt_or_ge (s[pos]'h).toNat 128 with ha | ha
 ·rw [decode_ascii s pos h ha]; exact Nat.le_refl _
 ·exact (decode_high s pos h ha).2
theorem zJv (s : ByteArray) : ∀ (f pos : Nat), s.size <= pos + f -> zPK s pos (zLT s f pos)
 | 0, pos, h => h
 | f + 1, pos, h => by
  rw [zLT]
  split
  ·rename_i hp
   have := zNE s pos hp
   exact ⟨hp, rfl, zJv s f _ (by omega)⟩
  ·rename_i hp
   exact Nat.not_lt.1 hp
theorem zQi (s : ByteArray) : zPK s 0 (zSn s) := zJv s _ _ (by omega)
theorem zNc (hT : TOk P T) (hR : RM X p w) {t id : Nat} {x : Operand} {dx : D} {o : Oper} {ρ : Operand -> Value} (ho : o.op = .range t x) (hx : zAy p (CW X p w) w dx (ρ x)) {ef : Ef}
  (h : zGo T p.mem id t dx = some ef) : zJc P X p w o ρ ef := by
 unfold zGo at h
 split at h
 ·rename_i a b z s ht
  cases h
  have hρ := zCu hx
  have h1 := hR.allocRaw (ob := .iter s 0 (zSn s)) (id := id) (ver := zDd p.mem id) (w.iter s 0) rfl rfl rfl rfl (zQi s) zD0
  refine ⟨_, _, _, .inl ?_, h1.1, h1.2, rfl, _, zAn _ _ _, Nat.le_refl _, fun _ => ⟨_, zAn _ _ _, rfl⟩⟩
  simp only [execOp, ho, hρ, Sem.run_bind, run_range_string w t s (zEZ hT ht), Result.andThen]
  rfl
 ·cases h
theorem zJS (hR : RM X p w) {t id : Nat} {o : Oper} {ρ : Operand -> Value} (ho : o.op = .makeMap t none) :
  zJc P X p w o ρ ⟨True, .one (.hnd id (zDd p.mem id)), [(id, ⟨zDd p.mem id, .raw (.smap []), 0⟩)]⟩ := by
 have h1 := hR.allocRaw (ob := .smap []) (id := id) (ver := zDd p.mem id) (w.alloc (.map #[] 0)) rfl rfl rfl rfl trivial zD0
 refine ⟨.map (some w.heap.size), _, _, .inl ?_, h1.1, h1.2, rfl, _, zAn _ _ _, Nat.le_refl _, fun _ => ⟨_, zAn _ _ _, rfl⟩⟩
 simp only [execOp, ho]
 rfl
theorem zOJ (hR : RM X p w) {x : Operand} {dx : D} {o : Oper} {ρ : Operand -> Value} (ho : o.op = .next x true) (hx : zAy p (CW X p w) w dx (ρ x)) {ef : Ef}
  (h : zFF p.mem dx = some ef) : zJc P X p w o ρ ef := by
 unfold zFF at h
 split at h
 ·rename_i id ver
  split at h
  ·rename_i bv s pos l hm
   cases hc : Nat.beq bv ver with
   | false => rw [hc] at h; cases h
   | true =>
    rw [hc, cond_true] at h
    obtain rfl := Nat.eq_of_beq_eq_true hc
    obtain ⟨g, hg, hv, hh⟩ := zOm hR hm rfl hx.2
    have hh : w.heap[g]? = some (.stringIter s pos) := hh
    have hgo : (getObj g).run P w = .ok (.stringIter s pos) w := by simp [getObj, Sem.run, hh]
    have hso : ∀ o', (setObj g o').run P w = .ok () { w with heap := w.heap.setIfInBounds g o' } := fun o' => by simp [setObj, Sem.run, hh]
    have hok := hR.blk id _ hm
    simp only [zAP, hg] at hok
    have hok : zPK s pos l := hok.1
    cases l with
    | nil =>
     cases h
     have hn : ¬ pos < s.size := Nat.not_lt.2 hok
     refine ⟨.tuple #[.bool false], w, p.μ, .inl ?_, hR, Kept.rfl', [.bool false], rfl, rfl, fun i y u h1 h2 => ?_⟩
     ·simp only [execOp, ho, hv, Instr.next, Sem.run_bind, hgo, Result.andThen_ok, if_neg hn]
      rfl
     ·cases i with
      | zero =>
       simp at h1 h2
       subst h1
       subst h2
       refine ⟨rfl, fun j y u h1 h2 => ?_⟩
       cases j with
       | zero => simp [Cs.d0] at h1 h2; subst h1; subst h2; exact RepE.v _ rfl
       | succ j => simp at h2
      | succ i => simp at h1
    | cons y r =>
     obtain ⟨c, n⟩ := y
     cases h
     obtain ⟨h1, h2, h3⟩ := hok
     let w' : World := { w with heap := w.heap.setIfInBounds g (.stringIter s (pos + n)) }
     have hs := MapKept.heap_set (o' := .stringIter s (pos + n)) hh
     have h4 := hR.writeRaw (ob := .iter s pos ((c, n) :: r)) (ob' := .iter s (pos + n) r) (id := id) (ver := bv) (g := g) w' hm hg hs.1 (fun k hk => hs.2 k hk) (by simp [w']) rfl rfl rfl h3
     refine ⟨.tuple #[.bool true, .int .i64 pos, .int .i32 c], w', p.μ, .inl ?_, h4.1, h4.2, [.bool true, .int .i64 pos, .int .i32 c], rfl, rfl, fun i y u k1 k2 => ?_⟩
     ·simp only [execOp, ho, hv, Instr.next, Sem.run_bind, hgo, Result.andThen_ok, if_pos h1, h2, hso]
      rfl
     ·have one : ∀ (C : Nat -> Nat -> Value -> Prop) (p : Rho) (w : World) (v : Value), v.oneCell' = true -> zMP p C w (false, .es [.v v]) v := fun C p w v hv => ⟨rfl, fun j y u e1 e2 => by
       cases j with
       | zero => simp [Cs.d0] at e1 e2; subst e1; subst e2; exact RepE.v _ hv
       | succ j => simp at e2⟩
      match i, k1, k2 with
      | 0, k1, k2 => simp at k1 k2; subst k1; subst k2; exact one _ _ _ _ rfl
      | 1, k1, k2 => simp at k1 k2; subst k1; subst k2; exact one _ _ _ _ rfl
      | 2, k1, k2 => simp at k1 k2; subst k1; subst k2; exact one _ _ _ _ rfl
      | i + 3, k1, k2 => simp at k1
  ·cases h
 ·cases h
theorem zMx : ∀ (b : Nat) (l : List (ByteArray × Int)), (zBb b l).length = l.length
 | b, [] => rfl
 | b, (k, v) :: r => by simp [zBb, zMx (b + 1) r]
theorem zMz : ∀ (b : Nat) (l : List (ByteArray × Int)) (k : ByteArray) (v : Int), zBb b (l ++ [(k, v)]) = zBb b l ++ [{ key := .string k, val := .int .i64 v, born := b + l.length }]
 | b, [], k, v => rfl
 | b, (k', v') :: r, k, v => by
  simp only [List.cons_append, zBb, zMz (b + 1) r, List.length_cons]
  rw [show b + 1 + r.length = b + (r.length + 1) by omega]
theorem zMy : ∀ (b : Nat) (l : List (ByteArray × Int)) (j : Nat) (k : ByteArray) (v : Int), l[j]? = some (k, v) -> (zBb b l)[j]? = some { key := .string k, val := .int .i64 v, born := b + j }
 | b, (k', v') :: r, 0, k, v, h => by simp at h; obtain ⟨rfl, rfl⟩ := h; rfl
 | b, (k', v') :: r, j + 1, k, v, h => by
  rw [zBb, List.getElem?_cons_succ, zMy (b + 1) r j k v (by simpa using h)]
  rw [show b + 1 + j = b + (j + 1) by omega]
theorem zMw : ∀ (b : Nat) (l : List (ByteArray × Int)) (j : Nat) (k : ByteArray) (v : Int), j < l.length -> zBb b (l.set j (k, v)) = (zBb b l).set j { key := .string k, val := .int .i64 v, born := b + j }
 | b, (k', v') :: r, 0, k, v, h => rfl
 | b, (k', v') :: r, j + 1, k, v, h => by
  rw [List.set_cons_succ, zBb, zMw (b + 1) r j k v (by simpa using h), zBb, List.set_cons_succ]
  rw [show b + 1 + j = b + (j + 1) by omega]
theorem zK3 (hT : TOk P T) (hR : RM X p w) {t : Nat} {x i y : Operand} {dx di dy : D} {o : Oper} {ρ : Operand -> Value} (ho : o.op = .mapUpdate t x i y) (hx : zAy p (CW X p w) w dx (ρ x)) (hi : zAy p (CW X p w) w di (ρ i)) (hy : zAy p (CW X p w) w dy (ρ y)) {ef : Ef}
  (h : zDr T p.mem t dx di dy = some ef) : zJc P X p w o ρ ef := by
 unfold zDr at h
 split at h
 ·rename_i a b k e z id ver s n ht
  split at h
  ·rename_i a1 b1 z1 bv l hk hm
   cases hc : Nat.beq bv ver with
   | false => rw [hc] at h; cases h
   | true =>
    rw [hc, cond_true] at h
    obtain rfl := Nat.eq_of_beq_eq_true hc
    cases h
    obtain ⟨g, hg, hv, hh⟩ := zOm hR hm rfl hx.2
    have hρi := zCu hi
    have hρy := zCu hy
    have hh : w.heap[g]? = some (.map (zBb 0 l).toArray l.length) := hh
    have hs := zEZ hT hk
    let w' : World := { w with heap := w.heap.setIfInBounds g (Raw.smap (zNS l s n)).obj }
    have hse := MapKept.heap_set (o' := (Raw.smap (zNS l s n)).obj) hh
    have h4 := hR.writeRaw (ob := .smap l) (ob' := .smap (zNS l s n)) (id := id) (ver := bv) (g := g) w' hm hg hse.1 (fun k hk => hse.2 k hk) (by simp [w']) rfl rfl rfl trivial
    have hrun : (Instr.mapUpdate t (.map (some g)) (.string s) (.int .i64 n)).run P w = .ok () w' := by
     rcases zGV s l 0 0 with ⟨h1, h2, h3⟩ | ⟨j, k', v', h1, h2, h3, h4, h5⟩
     ·have e : (Raw.smap (zNS l s n)).obj = .map ((zBb 0 l).toArray.push { key := .string s, val := .int .i64 n, born := l.length }) (l.length + 1) := by
       rw [h2]
       show Obj.map (zBb 0 (l ++ [(s, n)])).toArray (l ++ [(s, n)]).length = _
       rw [zMz, List.length_append, Nat.zero_add, List.push_toArray]
       rfl
      simp only [w']
      rw [e]
      simp [Instr.mapUpdate, run_underlying (zMd hT ht), MapKept.run_getObj_map hh, MapKept.run_checkKey (k := .string s) hs trivial, MapKept.run_findKey hs h1, MapKept.run_setObj_map _ hh, Result.andThen]
     ·subst h3
      rw [Nat.zero_add] at h1
      have hj : j < l.length := (List.getElem?_eq_some_iff.1 h2).1
      have hge := zMy 0 l j s v' h2
      have e : (Raw.smap (zNS l s n)).obj = .map ((zBb 0 l).toArray.modify j fun q => { q with key := .string s, val := .int .i64 n }) l.length := by
       rw [h5]
       show Obj.map (zBb 0 (l.set j (s, n))).toArray (l.set j (s, n)).length = _
       rw [zMw 0 l j s n hj, List.length_set]
       congr 1
       apply Array.ext'
       simp only [Array.toList_modify]
       apply List.ext_getElem?
       intro q
       rw [List.getElem?_set, List.getElem?_modify]
       by_cases hq : j = q
       ·subst hq
        rw [if_pos rfl, if_pos (by rw [zMx]; exact hj), hge]
        simp
       ·rw [if_neg hq]
        simp [hq]
      simp only [w']
      rw [e]
      simp [Instr.mapUpdate, run_underlying (zMd hT ht), MapKept.run_getObj_map hh, MapKept.run_checkKey (k := .string s) hs trivial, MapKept.run_findKey hs h1, hge, MapKept.run_keyThatStays (d := .string) (k := .string s) trivial, MapKept.run_setObj_map _ hh, Result.andThen]
    refine ⟨undef, w', p.μ, .inr ⟨?_, rfl⟩, h4.1, h4.2, trivial⟩
    simp [execOp, ho, hv, hρi, hρy, hrun]
  ·cases h
 ·cases h
end
section
variable {P : Program} {T : Nat -> Option TI} {X : Ctx} {w : World} {p : Rho}
theorem zNC (hT : TOk P T) (hR : RM X p w) {id : Nat} {o : Oper} {ev : Ev} {ρ : Operand -> Value} (hρ : ∀ x ∈ o.op.operands, zAy p (CW X p w) w (ev x) (ρ x)) {ef : Ef} (h : zKb T p.mem id o.op ev = some ef) (hφ : ef.φ) : zJc P X p w o ρ ef := by
 obtain ⟨dst, op, type, pos, after, guard⟩ := o
 dsimp only at h hρ
 unfold zKb at h
 split at h
 ·rename_i t x
  split at h
  ·rename_i c hc
   cases h
   have hr := zJB (hρ x (by simp [Op.operands])) hc
   refine zMG hR hr (t := t) ?_
   simp [execOp, Instr.box, newVar, newRow]
  ·cases h
 ·rename_i t
  split at h
  ·rename_i ti hti
   cases h
   obtain ⟨z, hz1, hz2⟩ := zD8 (w := w) (hT _ _ hti)
   have hr : zBA p (CW X p w) w (zCR ti.zero).d0 z.cells.toList := by rw [hz2]; exact zD9 (zF9 (hT _ _ hti))
   refine zMG hR hr (t := t) ?_
   simp [execOp, Instr.alloc, newVar, newRow, hz1]
  ·cases h
 ·rename_i t ps
  obtain ⟨h1, v, h2, h3⟩ := zNL (P := P) (ρ := ρ) hT (fun q hq => hρ q.2 (by simp only [Op.operands]; simpa using ⟨q.1, by simpa using hq⟩)) h hφ
  refine ⟨v, w, p.μ, .inl (by simp only [execOp, Sem.run_bind, h2]; rfl), ?_⟩
  rw [h1]
  exact ⟨hR, Kept.rfl', h3⟩
 ·rename_i t len ps
  exact zHc hT hR rfl (fun q hq => hρ q.2 (by simp only [Op.operands]; simpa using ⟨q.1, by simpa using hq⟩)) h hφ
 ·rename_i t a x
  split at h
  ·rename_i ti hti
   exact zM0 hT hR hti rfl (hρ a (by simp [Op.operands])) (hρ x (by simp [Op.operands])) h hφ
  ·cases h
 ·rename_i args ts
  split at h
  ·rename_i x y t tx ha ht
   obtain rfl : args = #[x, y] := by rw [<-Array.toArray_toList (xs := args), ha]
   obtain rfl : ts = #[t, tx] := by rw [<-Array.toArray_toList (xs := ts), ht]
   obtain ⟨v, w', μ', h1, h2⟩ := zLv (P := P) (ty := type) hT hR (hρ x (by simp [Op.operands, Call.operands])) (hρ y (by simp [Op.operands, Call.operands])) h hφ
   exact ⟨v, w', μ', .inl (by simp [execOp, resolve, invoke, builtin, h1]), h2⟩
  ·cases h
 ·rename_i args ts
  split at h
  ·rename_i x y t tx ha ht
   obtain rfl : args = #[x, y] := by rw [<-Array.toArray_toList (xs := args), ha]
   obtain rfl : ts = #[t, tx] := by rw [<-Array.toArray_toList (xs := ts), ht]
   exact zPh hT hR rfl (hρ x (by simp [Op.operands, Call.operands])) (hρ y (by simp [Op.operands, Call.operands])) h hφ
  ·cases h
 ·rename_i s d x
  exact zNI hT hR rfl (hρ x (by simp [Op.operands])) h hφ
 ·rename_i t x lo hi
  exact zKL hT hR rfl (hρ x (by simp [Op.operands])) (fun y hy => hρ y (by simp [Op.operands, hy])) (fun y hy => hρ y (by simp [Op.operands, hy])) h hφ
 ·rename_i t l c
  exact zOR hT hR rfl (hρ l (by simp [Op.operands])) (hρ c (by simp [Op.operands])) h hφ
 ·rename_i t x
  exact zNc hT hR rfl (hρ x (by simp [Op.operands])) h
 ·rename_i x
  exact zOJ hR rfl (hρ x (by simp [Op.operands])) h
 ·cases h
  exact zJS hR rfl
 ·rename_i t x i y
  exact zK3 hT hR rfl (hρ x (by simp [Op.operands])) (hρ i (by simp [Op.operands])) (hρ y (by simp [Op.operands])) h
 ·rename_i f first caps
  have key : ∀ (l : List Operand) (cs : List (Nat × Nat × Nat)), (∀ x ∈ l, zAy p (CW X p w) w (ev x) (ρ x)) -> zKl (l.map ev) = some cs -> cs.length = (l.map ρ).length /\ ∀ (i : Nat) c u, cs[i]? = some c -> (l.map ρ)[i]? = some u -> zKv p c.1 c.2.1 fun g => u = .pointer (some ⟨g, c.2.2, none⟩) := by
   intro l
   induction l with
   | nil => intro cs _ h; cases h; exact ⟨rfl, fun i c u h => nomatch h⟩
   | cons x l ih =>
    intro cs hx h
    rw [List.map_cons, zKl.eq_def] at h
    split at h
    ·rename_i hq; cases hq
    ·rename_i i v o r hq
     obtain ⟨hq1, rfl⟩ := List.cons.inj hq
     split at h
     ·rename_i cs' h1
      cases h
      obtain ⟨k1, k2⟩ := ih cs' (fun y hy => hx y (List.mem_cons_of_mem _ hy)) h1
      refine ⟨by simp [k1], fun j c u hc hu => ?_⟩
      cases j with
      | zero =>
       simp at hc hu
       subst hc
       subst hu
       have := hx x (List.mem_cons_self ..)
       rw [hq1] at this
       exact this.2
      | succ j => exact k2 j c u (by simpa using hc) (by simpa using hu)
     ·cases h
    ·cases h
  split at h
  ·rename_i cs hfi hcs
   cases hb : Nat.ble 1048576 f with
   | true => rw [hb] at h; cases h
   | false =>
   rw [hb] at h
   cases h
   obtain rfl : first = #[] := by rw [<-Array.toArray_toList (xs := first), hfi]
   refine ⟨.func (.func f) #[] (caps.map ρ), w, p.μ, .inl (by simp [execOp, Instr.makeFunc]), hR, Kept.rfl', (caps.map ρ).toList, by rw [zCG hb, Array.toArray_toList], ?_⟩
   have := key caps.toList cs (fun x hx => hρ x (by simp only [Op.operands]; simpa using hx)) hcs
   rw [Array.toList_map]
   exact this
  ·rename_i y r cs hfi hci hcs
   cases h
   obtain rfl : caps = #[] := by rw [<-Array.toArray_toList (xs := caps), hci]
   refine ⟨.func (.func f) (first.map ρ) #[], w, p.μ, .inl (by simp [execOp, Instr.makeFunc]), hR, Kept.rfl', (first.map ρ).toList, by rw [zLr, Array.toArray_toList], ?_⟩
   have := key first.toList cs (fun x hx => hρ x (by simp only [Op.operands]; simpa using hx)) hcs
   rw [Array.toList_map]
   exact this
  ·cases h
 ·cases h
theorem zPb (hT : TOk P T) (hR : RM X p w) {id : Nat} {o : Oper} {ev : Ev} {ρ : Operand -> Value} (hρ : ∀ x ∈ o.op.operands, zAy p (CW X p w) w (ev x) (ρ x)) {ef : Ef} (h : eff T p.mem id o.op ev = some ef) (hφ : ef.φ) : zJc P X p w o ρ ef := by
 unfold eff at h
 split at h
 ·rename_i φ d hq
  cases h
  obtain ⟨v, h1, h2⟩ := zNA hT hR hρ hq hφ
  exact ⟨v, w, p.μ, .inl h1, hR, Kept.rfl', h2⟩
 ·exact zNC hT hR hρ h hφ
end
def zPj (v : Value) : D :=
 match v with
 | .slice none 0 0 => .one .nil
 | .agg _ => .any
 | .tuple _ => .any
 | v => .one (.e (.v v))
def St.ev (s : St) : Operand -> D
 | .tmp t => bif Nat.blt t 900000 then s.tm t else .any
 | .const v => zPj v
 | .global g => s.tm (1000000 + g)
 | .func f => bif Nat.ble 1048576 f then .any else .one (.clo f [])
theorem zNF {p : Rho} {C : Nat -> Nat -> Value -> Prop} {w : World} (v : Value) : zAy p C w (zPj v) v := by
 unfold zPj
 split
 ·rfl
 ·trivial
 ·trivial
 ·rename_i h1 h2 h3
  refine RepE.v _ ?_
  cases v <;> first | rfl | exact absurd rfl (h2 _) | exact absurd rfl (h3 _)
theorem zBn {X : Ctx} {s : St} {a : Act} {w : World} {μ : Nat -> Option Nat} (h : ∀ t, zAy ⟨s.mem, μ⟩ (CW X ⟨s.mem, μ⟩ w) w (s.tm t) (zAL X.xg a.tmps t)) (x : Operand) : zAy ⟨s.mem, μ⟩ (CW X ⟨s.mem, μ⟩ w) w (s.ev x) (a.eval x) := by
 cases x with
 | tmp t =>
  show zAy _ _ _ (bif Nat.blt t 900000 then s.tm t else .any) (a.tmps.getD t undef)
  cases hb : Nat.blt t 900000 with
  | false => trivial
  | true =>
   have := h t
   rw [zCq (Nat.blt_eq.mp hb)] at this
   exact this
 | const v => exact zNF v
 | global g =>
  have := h (1000000 + g)
  rw [zBH] at this
  exact this
 | func f =>
  show zAy _ _ _ (bif Nat.ble 1048576 f then .any else .one (.clo f [])) _
  cases hb : Nat.ble 1048576 f with
  | true => trivial
  | false => exact ⟨[], (zCG hb).symm, rfl, fun i c u h => nomatch h⟩
def D.strip : D -> D
 | .gd _ d => d
 | d => d
def D.need : D -> Prop
 | .gd q _ => q
 | _ => True
theorem zAA {p : Rho} {C : Nat -> Nat -> Value -> Prop} {w : World} {d : D} {v : Value} (h : zAy p C w d v) (hn : d.need) : zAy p C w d.strip v := by
 cases d with
 | gd q d => exact h.1 hn
 | _ => exact h
def zAR (s : St) : List Operand -> List Prop
 | [] => []
 | x :: r =>
  match s.ev x with
  | .gd q _ => q :: zAR s r
  | _ => zAR s r
def zTo (l : List Prop) (φ : Prop) : Prop :=
 match l with
 | [] => φ
 | p :: r => p /\ zTo r φ
theorem zMC {l : List Prop} {φ : Prop} : zTo l φ ↔ (∀ p ∈ l, p) /\ φ := by
 induction l with
 | nil => simp [zTo]
 | cons p r ih => rw [zTo, ih, List.forall_mem_cons, and_assoc]
theorem zAC {s : St} : ∀ {l : List Operand}, (∀ p ∈ zAR s l, p) -> ∀ x ∈ l, (s.ev x).need
 | [], _, x, hx => by cases hx
 | y :: r, h, x, hx => by
  rw [zAR] at h
  rcases List.mem_cons.1 hx with rfl | hx
  ·split at h
   ·rename_i q d he
    rw [he]
    exact h q (by simp)
   ·rename_i he
    cases hd : s.ev x with
    | gd q d => exact absurd hd (he q d)
    | _ => trivial
  ·split at h
   ·exact zAC (fun p hp => h p (by simp [hp])) x hx
   ·exact zAC h x hx
def zNk (d : D) : Option Prop :=
 match d with
 | .gd q _ => some q
 | _ => none
theorem zMa {d : D} (h : ∀ q, zNk d = some q -> q) : d.need := by
 cases d with
 | gd q d => exact h q rfl
 | _ => trivial
inductive Gd where
 | free
 | iff (q : Prop)
 | bad
def zBT (ops : Array Oper) (s : St) (o : Oper) : Gd :=
 match o.guard with
 | none => .free
 | some (g, b) =>
  match ops[g]? with
  | some og =>
   match og.dst with
   | some t =>
    match s.tm t with
    | .one (.e (.v (.bool c))) => .iff (c = b)
    | .gd q (.one (.e (.v (.bool c)))) => .iff (q /\ c = b)
    | _ => .bad
   | none => .bad
  | none => .bad
theorem zHo (c : Bool) : undef ≠ .bool c := by intro h; cases h
theorem zCa {ops : Array Oper} {s : St} {o : Oper} (h : zBT ops s o = .free) (a : Act) : Region.wanted o (yielded ops a.tmps) = true := by
 unfold zBT at h
 split at h
 ·rename_i hg
  simp [Region.wanted, hg]
 ·split at h
  ·split at h
   ·split at h <;> cases h
   ·cases h
  ·cases h
theorem zHC {x : Nat -> Nat} {tmps : Array Value} {t : Nat} {c : Bool} (h : zAL x tmps t = .bool c) : tmps[t]? = some (.bool c) := by
 unfold zAL at h
 cases hb : Nat.ble 1000000 t with
 | true => rw [hb] at h; cases h
 | false =>
  rw [hb] at h
  cases hb2 : Nat.ble 900000 t with
  | true => rw [hb2] at h; cases h
  | false =>
  rw [hb2] at h
  have h : tmps.getD t undef = .bool c := h
  cases ht' : tmps[t]? with
  | none => rw [Array.getD_eq_getD_getElem?, ht'] at h; exact absurd h (zHo c)
  | some u => rw [Array.getD_eq_getD_getElem?, ht'] at h; rw [show u = .bool c from h]
theorem zKK {x : Nat -> Nat} {tmps : Array Value} {t : Nat} (h : zAL x tmps t = undef) : tmps[t]? = none \/ tmps[t]? = some undef := by
 unfold zAL at h
 cases hb : Nat.ble 1000000 t with
 | true => rw [hb] at h; cases h
 | false =>
  rw [hb] at h
  cases hb2 : Nat.ble 900000 t with
  | true => rw [hb2] at h; cases h
  | false =>
  rw [hb2] at h
  have h : tmps.getD t undef = undef := h
  cases ht' : tmps[t]? with
  | none => exact .inl rfl
  | some u => rw [Array.getD_eq_getD_getElem?, ht'] at h; rw [show u = undef from h]; exact .inr rfl
theorem zMq {ops : Array Oper} {s : St} {o : Oper} {q : Prop} {x : Nat -> Nat} (h : zBT ops s o = .iff q) {p : Rho} {C : Nat -> Nat -> Value -> Prop} {w : World} {a : Act} (hr : ∀ t, zAy p C w (s.tm t) (zAL x a.tmps t)) :
  (Region.wanted o (yielded ops a.tmps) = true ↔ q) := by
 unfold zBT at h
 split at h
 ·cases h
 ·rename_i g b hg
  split at h
  ·rename_i og hog
   split at h
   ·rename_i t ht
    have hw : Region.wanted o (yielded ops a.tmps) = (yielded ops a.tmps g == some b) := by simp [Region.wanted, hg]
    have hy : yielded ops a.tmps g = match a.tmps[t]? with | some (.bool c) => some c | _ => none := by
     simp only [yielded, hog, Option.bind_some, ht]
     rfl
    have h1 := hr t
    split at h
    ·rename_i c hc
     cases h
     rw [hc] at h1
     have := zCu h1
     have hs : a.tmps[t]? = some (.bool c) := zHC this
     rw [hw, hy, hs]
     simp
    ·rename_i q' c hc
     cases h
     rw [hc] at h1
     by_cases hq : q'
     ·have := zCu (h1.1 hq)
      have hs : a.tmps[t]? = some (.bool c) := zHC this
      rw [hw, hy, hs]
      simp [hq]
     ·have := h1.2 hq
      have hs : yielded ops a.tmps g = none := by
       rw [hy]
       rcases zKK this with ht' | ht' <;> rw [ht'] <;> rfl
      rw [hw, hs]
      simp [hq]
    ·cases h
   ·cases h
  ·cases h
def zKT (s : St) (c x y : Operand) : Option Ef :=
 match (s.ev c).strip, (s.ev x).strip, (s.ev y).strip with
 | .one (.e (.v (.bool cv))), .one (.e (.v (.bool xv))), .one (.e (.v (.bool yv))) =>
  match zNk (s.ev c), zNk (s.ev x), zNk (s.ev y) with
  | none, none, none => some ⟨True, .v (.bool (bif cv then xv else yv)), []⟩
  | none, none, some q => some ⟨cv = false -> q, .v (.bool (bif cv then xv else yv)), []⟩
  | none, some q, none => some ⟨cv = true -> q, .v (.bool (bif cv then xv else yv)), []⟩
  | some q, none, none => some ⟨q, .v (.bool (bif cv then xv else yv)), []⟩
  | some r, none, some q => some ⟨r /\ (cv = false -> q), .v (.bool (bif cv then xv else yv)), []⟩
  | some r, some q, none => some ⟨r /\ (cv = true -> q), .v (.bool (bif cv then xv else yv)), []⟩
  | _, _, _ => none
 | _, _, _ => none
theorem zQp {s : St} {c x y : Operand} {ef : Ef} (h : zKT s c x y = some ef) : ∃ cv xv yv : Bool, (s.ev c).strip = .v (.bool cv) /\ (s.ev x).strip = .v (.bool xv) /\ (s.ev y).strip = .v (.bool yv) ∧
  ef.val = .v (.bool (bif cv then xv else yv)) /\ ef.upds = [] /\ (ef.φ -> (s.ev c).need /\ (cv = true -> (s.ev x).need) /\ (cv = false -> (s.ev y).need)) := by
 unfold zKT at h
 split at h
 ·rename_i cv xv yv hc hx hy
  refine ⟨cv, xv, yv, hc, hx, hy, ?_⟩
  have key : ∀ {d : D}, zNk d = none -> d.need := fun {d} h => zMa fun q hq => by rw [h] at hq; cases hq
  have key' : ∀ {d : D} {q : Prop}, zNk d = some q -> q -> d.need := fun {d q} h hq => zMa fun q' hq' => by rw [h] at hq'; cases hq'; exact hq
  split at h
  ·rename_i h1 h2 h3; cases h; exact ⟨rfl, rfl, fun _ => ⟨key h1, fun _ => key h2, fun _ => key h3⟩⟩
  ·rename_i h1 h2 h3; cases h; exact ⟨rfl, rfl, fun f => ⟨key h1, fun _ => key h2, fun e => key' h3 (f e)⟩⟩
  ·rename_i h1 h2 h3; cases h; exact ⟨rfl, rfl, fun f => ⟨key h1, fun e => key' h2 (f e), fun _ => key h3⟩⟩
  ·rename_i h1 h2 h3; cases h; exact ⟨rfl, rfl, fun f => ⟨key' h1 f, fun _ => key h2, fun _ => key h3⟩⟩
  ·rename_i h1 h2 h3; cases h; exact ⟨rfl, rfl, fun f => ⟨key' h1 f.1, fun _ => key h2, fun e => key' h3 (f.2 e)⟩⟩
  ·rename_i h1 h2 h3; cases h; exact ⟨rfl, rfl, fun f => ⟨key' h1 f.1, fun e => key' h2 (f.2 e), fun _ => key h3⟩⟩
  ·cases h
 ·cases h
def zQo (T : Nat -> Option TI) (s : St) (id : Nat) (op : Op) : Option Ef :=
 match op with
 | .pick c x y => zKT s c x y
 | op =>
  match eff T s.mem id op (fun x => (s.ev x).strip) with
  | some ⟨φ, d, us⟩ =>
   match zAR s op.operands.toList with
   | [] => some ⟨φ, d, us⟩
   | [p] => some ⟨p /\ φ, d, us⟩
   | [p, q] => some ⟨p /\ q /\ φ, d, us⟩
   | l => some ⟨zTo l φ, d, us⟩
  | none => none
theorem zOn {T : Nat -> Option TI} {s : St} {id : Nat} {op : Op} (hp : ∀ c x y, op ≠ .pick c x y) {ef : Ef} (h : zQo T s id op = some ef) : ∃ φ d us, eff T s.mem id op (fun x => (s.ev x).strip) = some ⟨φ, d, us⟩ /\ ef = ⟨zTo (zAR s op.operands.toList) φ, d, us⟩ := by
 unfold zQo at h
 split at h
 ·exact absurd rfl (hp _ _ _)
 ·split at h
  ·rename_i φ d us he
   refine ⟨φ, d, us, he, ?_⟩
   split at h
   ·rename_i hn; rw [hn]; cases h; rfl
   ·rename_i hn; rw [hn]; cases h; rfl
   ·rename_i hn; rw [hn]; cases h; rfl
   ·cases h; rfl
  ·cases h
def zB0 (nt : Nat) : Option Tmp -> Bool
 | some t => Nat.blt t nt
 | none => true
def zFk : Option Tmp -> Nat
 | some t => t
 | none => 0
def zSK : Op -> Bool
 | .buildSlice .. => true
 | _ => false
def zKI (T : Nat -> Option TI) (ops : Array Oper) (s : St) (o : Oper) (id : Nat) : Option Ef :=
 match zBT ops s o with
 | .bad => none
 | .free => zQo T s id o.op
 | .iff q =>
  match zQo T s id o.op with
  | some ⟨φ, d, []⟩ => some ⟨q -> φ, .gd q d, []⟩
  | some ⟨φ, .one (.own _ _), [(_, ⟨_, .row _ xs, _⟩)]⟩ => bif zSK o.op then some ⟨q -> φ, .gd q (.one (.e (.sl xs))), []⟩ else none
  | _ => none
def zGA (T : Nat -> Option TI) (nt : Nat) (ops : Array Oper) (s : St) (o : Oper) : Option Ef :=
 match o.dst with
 | some t => bif Nat.blt t nt then zKI T ops s o t else none
 | none => zKI T ops s o 0
theorem zSk {T : Nat -> Option TI} {nt : Nat} {ops : Array Oper} {s : St} {o : Oper} {ef : Ef} (h : zGA T nt ops s o = some ef) : zB0 nt o.dst = true /\ ∃ id, zKI T ops s o id = some ef := by
 unfold zGA at h
 split at h
 ·rename_i t ht
  cases hb : Nat.blt t nt with
  | false => rw [hb] at h; cases h
  | true => rw [hb] at h; rw [ht]; exact ⟨hb, t, h⟩
 ·rename_i ht; rw [ht]; exact ⟨rfl, 0, h⟩
def St.app (s : St) (dst : Option Tmp) (d : D) (us : zBa) : St :=
 ⟨match dst with | some t => upd s.tm t d | none => s.tm, zBd s.mem us⟩
def OpT (P : Program) (X : Ctx) (ops : Array Oper) (o : Oper) (s s' : St) : Prop :=
 ∀ (Q : Exit -> Act -> World -> Prop) (a : Act) (w : World), R X s a w -> if Region.wanted o (yielded ops a.tmps) then o.wp P a w (R X s') Q else R X s' (a.put o.dst undef) w
section
variable {P : Program} {T : Nat -> Option TI} {X : Ctx}
theorem zBF {s : St} {p p' : Rho} {w w' : World} {a : Act} {dst : Option Tmp} {d : D} {v : Value} (hr : ∀ t, zAy p (CW X p w) w (s.tm t) (zAL X.xg a.tmps t)) (hK : Kept p (CW X p w) w p' (CW X p' w') w') (hv : zAy p' (CW X p' w') w' d v) (hsz : a.tmps.size = X.nt) (hd : zB0 X.nt dst = true) (us : zBa) :
  ∀ t, zAy p' (CW X p' w') w' ((s.app dst d us).tm t) (zAL X.xg (a.put dst v).tmps t) := by
 intro t
 cases dst with
 | none => exact (hr t).kept hK
 | some t' =>
  have hlt' : t' < X.nt := Nat.blt_eq.mp hd
  have hlt : t' < a.tmps.size := by rw [hsz]; exact hlt'
  by_cases ht : t = t'
  ·subst ht
   simp only [St.app, zAn, Act.put]
   rw [zCq (Nat.lt_of_lt_of_le hlt' X.big), Array.getD_eq_getD_getElem?, Array.getElem?_setIfInBounds_self, if_pos hlt]
   exact hv
  ·simp only [St.app, zAB _ _ ht, Act.put]
   have := (hr t).kept hK
   have e : zAL X.xg (a.tmps.setIfInBounds t' v) t = zAL X.xg a.tmps t := by
    unfold zAL
    rw [Array.getD_eq_getD_getElem?, Array.getD_eq_getD_getElem?, Array.getElem?_setIfInBounds_ne (Ne.symm ht)]
   rw [e]
   exact this
theorem zHI (hT : TOk P T) {s : St} {id : Nat} {o : Oper} {ef : Ef} (h : zQo T s id o.op = some ef) (hφ : ef.φ) {a : Act} {w : World} {μ : Nat -> Option Nat} (hM : RM X ⟨s.mem, μ⟩ w) (hr : ∀ t, zAy ⟨s.mem, μ⟩ (CW X ⟨s.mem, μ⟩ w) w (s.tm t) (zAL X.xg a.tmps t)) :
  zJc P X ⟨s.mem, μ⟩ w o a.eval ef := by
 by_cases hpk : ∃ c x y, o.op = .pick c x y
 ·obtain ⟨c, x, y, ho⟩ := hpk
  rw [ho] at h
  obtain ⟨cv, xv, yv, hc, hx, hy, e1, e2, e3⟩ := zQp (h : zKT s c x y = some ef)
  obtain ⟨f1, f2, f3⟩ := e3 hφ
  have e4 := zAA (zBn hr c) f1
  rw [hc] at e4
  have hcv := zCu e4
  refine ⟨.bool (bif cv then xv else yv), w, μ, .inl ?_, by rw [e2]; exact hM, by rw [e2]; exact Kept.rfl', by rw [e1]; exact zAF rfl⟩
  simp only [execOp, ho, hcv, asBool]
  cases cv with
  | true =>
   have e2 := zAA (zBn hr x) (f2 rfl)
   rw [hx] at e2
   have := zCu e2
   simp [this]
  | false =>
   have e2 := zAA (zBn hr y) (f3 rfl)
   rw [hy] at e2
   have := zCu e2
   simp [this]
 ·obtain ⟨φ, d, us, he, rfl⟩ := zOn (fun c x y e => hpk ⟨c, x, y, e⟩) h
  obtain ⟨f1, f2⟩ := zMC.1 hφ
  have := zPb (ef := ⟨φ, d, us⟩) (p := ⟨s.mem, μ⟩) (ρ := a.eval) hT hM (fun x hx => zAA (zBn hr x) (zAC f1 x (by simpa using hx))) he f2
  exact this
theorem zJF (hT : TOk P T) {s : St} {id : Nat} {o : Oper} {φ : Prop} {i v i' v' z pub : Nat} {xs : List (List E)} (hl : zSK o.op = true) (h : zQo T s id o.op = some ⟨φ, .one (.own i v), [(i', ⟨v', .row z xs, pub⟩)]⟩) (hφ : φ) {a : Act} {w : World} {μ : Nat -> Option Nat} (hM : RM X ⟨s.mem, μ⟩ w) (hr : ∀ t, zAy ⟨s.mem, μ⟩ (CW X ⟨s.mem, μ⟩ w) w (s.tm t) (zAL X.xg a.tmps t)) :
  zJc P X ⟨s.mem, μ⟩ w o a.eval ⟨True, .one (.e (.sl xs)), []⟩ := by
 have hop : ∃ t len ps, o.op = .buildSlice t len ps := by
  revert hl
  generalize o.op = op
  cases op <;> first | (intro h; cases h; done) | (intro _; exact ⟨_, _, _, rfl⟩)
 obtain ⟨t, len, ps, hop⟩ := hop
 obtain ⟨φ', d, us, he, hef⟩ := zOn (fun c x y e => by rw [hop] at e; cases e) h
 cases hef
 obtain ⟨f1, f2⟩ := zMC.1 hφ
 rw [hop] at he f1
 have he : zBM T s.mem id t len (ps.toList.map fun q => (q.1, (s.ev q.2).strip)) = some ⟨φ', .one (.own i v), [(i', ⟨v', .row z xs, pub⟩)]⟩ := he
 exact zQE (p := ⟨s.mem, μ⟩) (id := id) (ev := fun x => (s.ev x).strip) (i' := i') (ver' := v') (z' := z) (pub' := pub) hT hM hop (fun q hq => zAA (zBn hr q.2) (zAC f1 q.2 (by simp only [Op.operands]; simpa using ⟨q.1, by simpa using hq⟩))) he f2
theorem zIF {s : St} {o : Oper} {ef : Ef} {a : Act} {w : World} {μ : Nat -> Option Nat} (hr : ∀ t, zAy ⟨s.mem, μ⟩ (CW X ⟨s.mem, μ⟩ w) w (s.tm t) (zAL X.xg a.tmps t)) (hsz : a.tmps.size = X.nt) (hdf : a.defers = X.df) (hd : zB0 X.nt o.dst = true)
  (h : zJc P X ⟨s.mem, μ⟩ w o a.eval ef) (Q : Exit -> Act -> World -> Prop) : o.wp P a w (R X (s.app o.dst ef.val ef.upds)) Q := by
 obtain ⟨v, w', μ', hrun, h1, h2, h3⟩ := h
 have hR : R X (s.app o.dst ef.val ef.upds) (a.put o.dst v) w' := ⟨μ', h1, by cases o.dst <;> simp [Act.put, hsz], by cases o.dst <;> exact hdf, zBF hr h2 h3 hsz hd ef.upds⟩
 unfold Oper.wp
 rcases hrun with hrun | ⟨hrun, rfl⟩
 ·rw [hrun]; exact hR
 ·rw [hrun]; exact hR
theorem zEb (hT : TOk P T) {ops : Array Oper} {s : St} {o : Oper} {ef : Ef} (h : zGA T X.nt ops s o = some ef) (hφ : ef.φ) : OpT P X ops o s (s.app o.dst ef.val ef.upds) := by
 intro Q a w ⟨μ, hM, hsz, hdf, hr⟩
 obtain ⟨hd, id, h⟩ := zSk h
 unfold zKI at h
 split at h
 ·cases h
 ·rename_i hg
  rw [if_pos (zCa hg a)]
  exact zIF hr hsz hdf hd (zHI hT h hφ hM hr) Q
 ·rename_i q hg
  have hiff := zMq hg hr
  split at h
  ·rename_i φ d hraw
   cases h
   by_cases hq : q
   ·rw [if_pos (hiff.2 hq)]
    have := zHI hT hraw (hφ hq) hM hr
    obtain ⟨v, w', μ', k1, k2, k3, k4⟩ := this
    exact zIF (ef := ⟨q -> φ, .gd q d, []⟩) hr hsz hdf hd ⟨v, w', μ', k1, k2, k3, fun _ => k4, fun hn => absurd hq hn⟩ Q
   ·rw [if_neg (fun hw => hq (hiff.1 hw))]
    exact ⟨μ, hM, by cases o.dst <;> simp [Act.put, hsz], by cases o.dst <;> exact hdf, zBF (d := .gd q d) (v := undef) hr Kept.rfl' ⟨fun h => absurd h hq, fun _ => rfl⟩ hsz hd []⟩
  ·rename_i φ i v i' v' z xs pub hraw
   cases hl : zSK o.op with
   | false => rw [hl] at h; cases h
   | true =>
    rw [hl] at h
    cases h
    by_cases hq : q
    ·rw [if_pos (hiff.2 hq)]
     obtain ⟨v, w', μ', k1, k2, k3, k4⟩ := zJF hT hl hraw (hφ hq) hM hr
     exact zIF (ef := ⟨q -> φ, .gd q (.one (.e (.sl xs))), []⟩) hr hsz hdf hd ⟨v, w', μ', k1, k2, k3, fun _ => k4, fun hn => absurd hq hn⟩ Q
    ·rw [if_neg (fun hw => hq (hiff.1 hw))]
     exact ⟨μ, hM, by cases o.dst <;> simp [Act.put, hsz], by cases o.dst <;> exact hdf, zBF (d := .gd q (.one (.e (.sl xs)))) (v := undef) hr Kept.rfl' ⟨fun h => absurd h hq, fun _ => rfl⟩ hsz hd []⟩
  ·cases h
end
inductive Lex (P : Program) (X : Ctx) (ops : Array Oper) : List Oper -> St -> St -> Prop
 | nil (s : St) : Lex P X ops [] s s
 | cons {o : Oper} {r : List Oper} {s s1 s2 : St} (h : OpT P X ops o s s1) (k : Lex P X ops r s1 s2) : Lex P X ops (o :: r) s s2
def zVq : Op -> Bool
 | .call ⟨.value _, _, _⟩ => true
 | .call ⟨.invoke _ _, _, _⟩ => true
 | _ => false
def Tr (P : Program) (X : Ctx) (c : Code) (s : St) (Q : Exit -> St -> Prop) : Prop :=
 ∀ (a : Act) (w : World), R X s a w -> c.wp P (fun e a' w' => ∃ s', Q e s' /\ R X s' a' w') a w
def Le (X : Ctx) (s s' : St) : Prop := ∀ (a : Act) (w : World), R X s a w -> R X s' a w
section
variable {P : Program} {T : Nat -> Option TI} {X : Ctx}
theorem zQF {ops : Array Oper} {Q : Exit -> Act -> World -> Prop} {l : List Oper} {s s' : St} (h : Lex P X ops l s s') (hQ : ∀ a w, R X s' a w -> Q .normal a w) : ∀ a w, R X s a w -> wpList P ops Q l a w := by
 induction h with
 | nil s => intro a w hR; exact hQ a w hR
 | cons h k ih =>
  intro a w hR
  refine wpList_step fun K hK => ?_
  have := h Q a w hR
  split
  ·rename_i hw
   rw [if_pos hw] at this
   exact Oper.wp_mono (fun a w hr => hK a w (ih hQ a w hr)) this
  ·rename_i hw
   rw [if_neg hw] at this
   exact hK _ _ (ih hQ _ _ this)
theorem zAa {id : Nat} {ops : Array Oper} {s s' : St} {Q : Exit -> St -> Prop} (h : Lex P X ops ops.toList s s') (hQ : Q .normal s') : Tr P X (.region id ops false) s Q :=
 fun a w hR => wp_region_list (zQF h (fun _ _ hR => ⟨s', hQ, hR⟩) a w hR)
theorem zEJ {c : Code} {s : St} {Q Q' : Exit -> St -> Prop} (h : Tr P X c s Q) (hq : ∀ e s, Q e s -> Q' e s) : Tr P X c s Q' :=
 fun a w hR => wp_mono (h a w hR) fun _ _ _ ⟨s', h1, h2⟩ => ⟨s', hq _ _ h1, h2⟩
theorem zGv {s : St} {Q : Exit -> St -> Prop} (h : Q .normal s) : Tr P X .skip s Q := fun _ _ hR => wp_skip ⟨s, h, hR⟩
theorem zAb {s : St} {Q : Exit -> St -> Prop} (h : Q .ret s) : Tr P X .ret s Q := fun _ _ hR => wp_ret ⟨s, h, hR⟩
theorem zAt {id : Nat} {s : St} {Q : Exit -> St -> Prop} (h : Q (.exit id) s) : Tr P X (.exit id) s Q := fun _ _ hR => wp_exit ⟨s, h, hR⟩
def andThen (P : Program) (X : Ctx) (y : Code) (Q : Exit -> St -> Prop) : Exit -> St -> Prop
 | .normal, s => Tr P X y s Q
 | e, s => Q e s
theorem zDI {x y : Code} {s : St} {Q : Exit -> St -> Prop} (h : Tr P X x s (andThen P X y Q)) : Tr P X (.seq x y) s Q :=
 fun a w hR => wp_seq (wp_mono (h a w hR) fun e a' w' ⟨s', h1, h2⟩ => by
  cases e <;> first | exact h1 a' w' h2 | exact ⟨s', h1, h2⟩)
def zNp (id : Nat) (Q : Exit -> St -> Prop) : Exit -> St -> Prop
 | .exit id', s => if id' = id then Q .normal s else Q (.exit id') s
 | e, s => Q e s
theorem zEX {id : Nat} {c : Code} {s : St} {Q : Exit -> St -> Prop} (h : Tr P X c s (zNp id Q)) : Tr P X (.block id c) s Q :=
 fun a w hR => wp_block (wp_mono (h a w hR) fun e a' w' ⟨s', h1, h2⟩ => by
  cases e with
  | exit id' =>
   simp only [zNp] at h1
   simp only [Exit.inBlock]
   split at h1
   ·rename_i hi; rw [if_pos hi]; exact ⟨s', h1, h2⟩
   ·rename_i hi; rw [if_neg hi]; exact ⟨s', h1, h2⟩
  | _ => exact ⟨s', h1, h2⟩)
theorem zAj {c : Operand} {x y : Code} {s : St} {Q : Exit -> St -> Prop} {b : Bool} (hc : s.ev c = .v (.bool b)) (ht : b = true -> Tr P X x s Q) (hf : b = false -> Tr P X y s Q) : Tr P X (.cond c x y) s Q := by
 intro a w hR
 obtain ⟨μ, hM, hsz, hdf, hr⟩ := hR
 have h1 := zBn hr c
 rw [hc] at h1
 have hv := zCu h1
 exact wp_cond_split hv (fun e => ht e a w ⟨μ, hM, hsz, hdf, hr⟩) (fun e => hf e a w ⟨μ, hM, hsz, hdf, hr⟩)
theorem zAq {c : Code} {s s' : St} {Q : Exit -> St -> Prop} (h : Le X s s') (k : Tr P X c s' Q) : Tr P X c s Q := fun a w hR => k a w (h a w hR)
theorem zAx {σ : Type} (H : σ -> St) (J : σ -> Prop) (m : σ -> Nat) {c : Code} {s : St} {Q : Exit -> St -> Prop} (x0 : σ) (hs : Le X s (H x0)) (h0 : J x0)
  (round : ∀ x, J x -> Tr P X c (H x) (fun | .normal, s' => ∃ x', J x' /\ m x' < m x /\ Le X s' (H x') | e, s' => Q e s')) : Tr P X (.loop c) s Q := by
 intro a w hR
 intro b k cs
 have key : ∀ n x a w, m x = n -> J x -> R X (H x) a w ->
   ∃ e a' w', (∃ s', Q e s' /\ R X s' a' w') /\ Arrives P (lone (b.at a (.code c :: .inLoop c :: k)) cs w) b k cs e a' w' := by
  intro n
  induction n using Nat.strongRecOn with
  | _ n ih =>
   intro x a w hn hJ hRx
   obtain ⟨e, a₁, w₁, ⟨s1, hq, hR1⟩, harr⟩ := round x hJ a w hRx b (.inLoop c :: k) cs
   cases e with
   | normal =>
    obtain ⟨x', hJ', hlt, hle⟩ := hq
    obtain ⟨e₂, a₂, w₂, hq₂, harr₂⟩ := ih (m x') (hn ▸ hlt) x' a₁ w₁ rfl hJ' (hle _ _ hR1)
    exact ⟨e₂, a₂, w₂, hq₂, .of_steps (Steps.trans harr (.one step_inLoop)) harr₂⟩
   | exit id => exact ⟨_, a₁, w₁, ⟨s1, hq, hR1⟩, .pass (x := .inLoop c) rfl (fun _ _ => .inl (by simp)) harr⟩
   | goto l => exact ⟨_, a₁, w₁, ⟨s1, hq, hR1⟩, .pass (x := .inLoop c) rfl (fun _ _ => .inl (by simp)) harr⟩
   | ret => exact ⟨_, a₁, w₁, ⟨s1, hq, hR1⟩, .pass (x := .inLoop c) rfl (fun _ _ => .inl (by simp)) harr⟩
   | panic ch => exact ⟨_, a₁, w₁, ⟨s1, hq, hR1⟩, .pass (x := .inLoop c) rfl (fun _ _ => .inl (by simp)) harr⟩
   | outgrown => exact ⟨_, a₁, w₁, ⟨s1, hq, hR1⟩, .pass (x := .inLoop c) rfl (fun _ _ => .inl (by simp)) harr⟩
 obtain ⟨e, a', w', hq, harr⟩ := key _ x0 a w rfl h0 (hs _ _ hR)
 exact ⟨e, a', w', hq, .of_steps (.one step_loop) harr⟩
def p0 : Rho := ⟨fun _ => none, fun _ => none⟩
def CI (w : World) (I : Nat -> Nat -> Prop) (b o : Nat) (u : Value) : Prop := w.cell? ⟨b, o, none⟩ = some u /\ I b o
def CI' (w w' : World) (I : Nat -> Nat -> Prop) (b o : Nat) (u : Value) : Prop := w'.cell? ⟨b, o, none⟩ = some u /\ (I b o \/ w.heap.size <= b)
def zHy (C : Nat -> Nat -> Value -> Prop) (w : World) (args : List D) (vs : List Value) : Prop :=
 args.length = vs.length /\ ∀ (i : Nat) d v, args[i]? = some d -> vs[i]? = some v -> zAy p0 C w d v
def zRc (P : Program) (f : Nat) : Prop := ∃ fn c, P.funcs[f]? = some fn /\ fn.body = some c /\ ((fn.name == "runtime.NumGoroutine") || Nat.ble 1048576 f) = false
def FnD (P : Program) (f : Nat) (args : List D) (r : D) : Prop :=
 zRc P f /\ ∀ (w : World) (vs : Array Value) (I : Nat -> Nat -> Prop), zHy (CI w I) w args vs.toList ->
  Calls P f vs w fun e w' => ∃ v, e = .returned v /\ Below w.heap.size w w' /\ zAy p0 (CI' w w' I) w' r v
def zF7 (m : Mem) : D -> Option (D × zBa)
 | .one (.clo f []) => some (.one (.clo f []), [])
 | .one (.ptr i v o) => match m i with
  | some ⟨bv, .box (.es cs), _⟩ => bif Nat.beq bv v then some (.one (.eptr (cs.drop o)), [(i, ⟨bv, .box (.es cs), (Body.box (.es cs)).cells.length⟩)]) else none
  | _ => none
 | .one x => match frz m x with
  | some (e, us) => some (.one (.e e), us)
  | none => none
 | .agg c => match zNt m c with
  | some (es, us) => some (.agg (.es es), us)
  | none => none
 | _ => none
def zBi (m : Mem) : List D -> Option (List D × zBa)
 | [] => some ([], [])
 | d :: r => match zF7 m d, zBi m r with
  | some (x, u), some (xs, us) => some (x :: xs, u ++ us)
  | _, _ => none
theorem zMB {m : Mem} {d x : D} {us : zBa} (h : zF7 m d = some (x, us)) : zJa m us := by
 unfold zF7 at h
 split at h
 ·cases h; exact fun u hu => nomatch hu
 ·rename_i id ver off
  split at h
  ·rename_i bv cs pub hb
   cases hv : Nat.beq bv ver with
   | false => simp [hv] at h
   | true =>
    simp only [hv, cond_true, Option.some.injEq, Prod.mk.injEq] at h
    obtain ⟨rfl, rfl⟩ := h
    intro u hu
    simp at hu
    subst hu
    exact ⟨_, hb, rfl⟩
  ·cases h
 ·split at h
  ·rename_i e us' hf; cases h; exact zMr hf
  ·cases h
 ·split at h
  ·rename_i es us' hf; cases h; exact zIH hf
  ·cases h
 ·cases h
theorem zCM {m : Mem} : ∀ {ds xs : List D} {us : zBa}, zBi m ds = some (xs, us) -> zJa m us
 | [], _, _, h => by cases h; exact fun u hu => nomatch hu
 | d :: r, xs, us, h => by
  rw [zBi] at h
  split at h
  ·rename_i x u xs' us' h1 h2
   cases h
   intro v hv
   rcases List.mem_append.1 hv with hv | hv
   ·exact zMB h1 v hv
   ·exact zCM h2 v hv
  ·cases h
theorem zKf {m m' : Mem} {μ : Nat -> Option Nat} {w : World} (hR : RM X ⟨m', μ⟩ w) {d x : D} {us : zBa} {v : Value} (hv : zAy ⟨m', μ⟩ (CW X ⟨m', μ⟩ w) w d v) (h : zF7 m d = some (x, us)) (hu : ∀ u ∈ us, m' u.1 = some u.2) : zAy p0 (CW X ⟨m', μ⟩ w) w x v := by
 unfold zF7 at h
 split at h
 ·cases h
  obtain ⟨vs, rfl, hl, _⟩ := hv
  exact ⟨vs, rfl, hl, fun i c u h => nomatch h⟩
 ·rename_i id ver off
  split at h
  ·rename_i bv cs pub hb
   cases hbv : Nat.beq bv ver with
   | false => simp [hbv] at h
   | true =>
    obtain rfl := Nat.eq_of_beq_eq_true hbv
    simp only [hbv, cond_true, Option.some.injEq, Prod.mk.injEq] at h
    obtain ⟨rfl, rfl⟩ := h
    exact zL2 hR (hu (id, ⟨bv, .box (.es cs), (Body.box (.es cs)).cells.length⟩) (List.mem_singleton.2 rfl)) hv
  ·cases h
 ·split at h
  ·rename_i e us' hf
   cases h
   exact zIG hR hv hf hu
  ·cases h
 ·split at h
  ·rename_i es us' hf
   cases h
   obtain ⟨vs, rfl, hr⟩ := hv
   have := zEm hR hr hf hu
   refine ⟨vs, rfl, this.1, fun i y u hy hu => ?_⟩
   have h1 := this.2 i y u hy hu
   simp only [Cs.d0, List.getElem?_map, Option.map_eq_some_iff] at hy
   obtain ⟨e, _, rfl⟩ := hy
   exact h1
  ·cases h
 ·cases h
theorem zCc {m m' : Mem} {μ : Nat -> Option Nat} {w : World} (hR : RM X ⟨m', μ⟩ w) : ∀ {ds xs : List D} {us : zBa} {vs : List Value}, (ds.length = vs.length /\ ∀ (i : Nat) d v, ds[i]? = some d -> vs[i]? = some v -> zAy ⟨m', μ⟩ (CW X ⟨m', μ⟩ w) w d v) -> zBi m ds = some (xs, us) -> (∀ u ∈ us, m' u.1 = some u.2) ->
  zHy (CW X ⟨m', μ⟩ w) w xs vs
 | [], _, _, vs, hr, h, _ => by cases h; exact ⟨hr.1, fun i d v hd => nomatch hd⟩
 | d :: r, xs, us, [], hr, h, _ => by have := hr.1; simp at this
 | d :: r, xs, us, v :: vs, hr, h, hu => by
  rw [zBi] at h
  split at h
  ·rename_i x u xs' us' h1 h2
   cases h
   have ih := zCc hR (ds := r) (vs := vs) ⟨by simpa using hr.1, fun i d v hd hv => hr.2 (i + 1) d v (by simpa using hd) (by simpa using hv)⟩ h2 (fun u hu' => hu u (by simp [hu']))
   have h0 := zKf hR (hr.2 0 d v rfl rfl) h1 (fun u hu' => hu u (by simp [hu']))
   refine ⟨by simp [ih.1], fun i y u hy hu => ?_⟩
   cases i with
   | zero => simp at hy hu; subst hy; subst hu; exact h0
   | succ i => exact ih.2 i y u (by simpa using hy) (by simpa using hu)
  ·cases h
theorem zCC {p : Rho} {C C' : Nat -> Nat -> Value -> Prop} {w : World} (h : ∀ b o u, C b o u -> C' b o u) : Kept p0 C w p C' w :=
 ⟨h, fun id blk hb => nomatch hb⟩
theorem zIp {ops : Array Oper} {s : St} {o : Oper} {fo : Operand} {f : Nat} {args : Array Operand} {ts : Array TypeId} (hop : o.op = .call ⟨.value fo, args, ts⟩) (hgd : zBT ops s o = .free) (hfo : (s.ev fo).strip = .one (.clo f [])) {az : List D} {us : zBa} {r : D}
  (has : zBi s.mem (args.toList.map fun x => (s.ev x).strip) = some (az, us)) (hn : ∀ p ∈ zAR s (fo :: args.toList), p) (hfn : FnD P f az r) (hd : zB0 X.nt o.dst = true) : OpT P X ops o s (s.app o.dst r us) := by
 intro Q a w ⟨μ, hM, hsz, hdf, hr⟩
 rw [if_pos (zCa hgd a)]
 obtain ⟨⟨fn, c, k1, k2, k34⟩, hfn⟩ := hfn
 obtain ⟨k3, k4⟩ := Bool.or_eq_false_iff.1 k34
 obtain ⟨r1, r2, r3, r4⟩ := RM.pubs us s.mem hM (zCM has)
 have hrep := zCc (vs := (args.map a.eval).toList) r1 ⟨by simp, fun i d v hd hv => by
  simp only [List.getElem?_map, Array.toList_map, Option.map_eq_some_iff] at hd hv
  obtain ⟨x, hx, rfl⟩ := hd
  obtain ⟨y, hy, rfl⟩ := hv
  rw [hx] at hy
  cases hy
  exact (zAA (zBn hr x) (zAC hn x (List.mem_cons_of_mem _ (List.mem_of_getElem? hx)))).kept r2⟩ has r3
 have hf := zAA (zBn hr fo) (zAC hn fo (List.mem_cons_self ..))
 rw [hfo] at hf
 obtain ⟨vs0, hfv, hl0, _⟩ := hf
 rw [zCG k4] at hfv
 have hvs0 : vs0 = [] := List.eq_nil_of_length_eq_zero (by simpa using hl0.symm)
 subst hvs0
 have hcall : (execOp a.eval o).run P w = .ok (.enter f (args.map a.eval)) w := by
  have hb : fn.body.isNone = false := by rw [k2]; rfl
  have hne : ¬ (fn.name = "runtime.NumGoroutine") := by simpa using k3
  simp [execOp, hop, resolve, hfv, Deferred.ofValue, invoke, callFunc, k1, hne, k2]
 unfold Oper.wp
 rw [hcall, Oper.upon_enter]
 let I : Nat -> Nat -> Prop := fun b o => (¬ X.own b -> X.I b o) /\ (X.own b -> ∀ id blk, zBd s.mem us id = some blk -> μ id = some b -> o < blk.pub)
 refine (hfn w (args.map a.eval) I ⟨hrep.1, fun i d v hd hv => (hrep.2 i d v hd hv).kept (zCC fun b o u h => ⟨h.1, h.2⟩)⟩).mono ?_
 rintro e w' ⟨v, rfl, hbel, hv⟩
 obtain ⟨q1, q2⟩ := r1.call hbel
 have hv' : zAy ⟨zBd s.mem us, μ⟩ (CW X ⟨zBd s.mem us, μ⟩ w') w' r v := hv.kept (zCC fun b o u h => by
  obtain ⟨h1, h2⟩ := h
  rcases h2 with ⟨h2, h3⟩ | h2
  ·exact ⟨h1, h2, h3⟩
  ·refine ⟨h1, fun hno => absurd (.inl (Nat.le_trans r1.bel.size h2)) hno, fun _ id blk m1 m2 => ?_⟩
   have m2 : μ id = some b := m2
   have := r1.blk id blk m1
   simp only [zAP, m2] at this
   obtain ⟨_, _, _, _, cur, e, lo, hi, g4, _⟩ := this
   exact absurd (Nat.lt_of_lt_of_le (Array.getElem?_eq_some_iff.1 g4).1 h2) (Nat.lt_irrefl _))
 exact ⟨μ, q1, by cases o.dst <;> simp [Act.put, hsz], by cases o.dst <;> exact hdf, zBF (us := us) hr (r2.trans q2) hv' hsz hd⟩
def FnE (P : Program) (f : Nat) (args : List D) (r : D) : Prop :=
 Nat.ble 1048576 f = false /\ ∀ (w : World) (vs : Array Value) (C : Nat -> Nat -> Value -> Prop), zHy C w args vs.toList -> ∃ v, (callFunc f vs).run P w = .ok (.value v) w /\ zAy p0 C w r v
theorem zOu {ops : Array Oper} {s : St} {o : Oper} {fo : Operand} {f : Nat} {args : Array Operand} {ts : Array TypeId} (hop : o.op = .call ⟨.value fo, args, ts⟩) (hgd : zBT ops s o = .free) (hfo : (s.ev fo).strip = .one (.clo f [])) {az : List D} {us : zBa} {r : D}
  (has : zBi s.mem (args.toList.map fun x => (s.ev x).strip) = some (az, us)) (hn : ∀ p ∈ zAR s (fo :: args.toList), p) (hfn : FnE P f az r) (hd : zB0 X.nt o.dst = true) : OpT P X ops o s (s.app o.dst r us) := by
 intro Q a w ⟨μ, hM, hsz, hdf, hr⟩
 rw [if_pos (zCa hgd a)]
 obtain ⟨r1, r2, r3, r4⟩ := RM.pubs us s.mem hM (zCM has)
 have hrep := zCc (vs := (args.map a.eval).toList) r1 ⟨by simp, fun i d v hd hv => by
  simp only [List.getElem?_map, Array.toList_map, Option.map_eq_some_iff] at hd hv
  obtain ⟨x, hx, rfl⟩ := hd
  obtain ⟨y, hy, rfl⟩ := hv
  rw [hx] at hy
  cases hy
  exact (zAA (zBn hr x) (zAC hn x (List.mem_cons_of_mem _ (List.mem_of_getElem? hx)))).kept r2⟩ has r3
 have hf := zAA (zBn hr fo) (zAC hn fo (List.mem_cons_self ..))
 rw [hfo] at hf
 obtain ⟨vs0, hfv, hl0, _⟩ := hf
 rw [zCG hfn.1] at hfv
 have hvs0 : vs0 = [] := List.eq_nil_of_length_eq_zero (by simpa using hl0.symm)
 subst hvs0
 obtain ⟨v, hv1, hv2⟩ := hfn.2 w (args.map a.eval) _ hrep
 have hcall : (execOp a.eval o).run P w = .ok (.value v) w := by
  simp only [execOp, hop, resolve, hfv, Deferred.ofValue, invoke]
  simpa using hv1
 unfold Oper.wp
 rw [hcall, Oper.upon_value]
 have hv' : zAy ⟨zBd s.mem us, μ⟩ (CW X ⟨zBd s.mem us, μ⟩ w) w r v := hv2.kept (zCC fun b o u h => h)
 exact ⟨μ, r1, by cases o.dst <;> simp [Act.put, hsz], by cases o.dst <;> exact hdf, zBF (us := us) hr r2 hv' hsz hd⟩
def zET : List (Nat × Nat × Nat) -> List D
 | [] => []
 | c :: r => .one (.ptr c.1 c.2.1 c.2.2) :: zET r
theorem zKe {m : Mem} {caps : List (Nat × Nat × Nat)} : ∀ {l xs : List D} {us : zBa}, zBi m (l ++ zET caps) = some (xs, us) -> ∀ c ∈ caps, ∃ b, m c.1 = some b /\ b.ver = c.2.1
 | d :: l, xs, us, h => by
  rw [List.cons_append, zBi] at h
  split at h
  ·rename_i h2
   exact zKe h2
  ·cases h
 | [], xs, us, h => by
  rw [List.nil_append] at h
  revert xs us
  induction caps with
  | nil => intro xs us h c hc; cases hc
  | cons c caps ih =>
   intro xs us h
   rw [zET, zBi] at h
   split at h
   ·rename_i x u xs' us' h1 h2
    intro c' hc
    rcases List.mem_cons.1 hc with rfl | hc
    ·unfold zF7 at h1
     simp only at h1
     split at h1
     ·rename_i bv cs pub hb
      cases hv : Nat.beq bv c'.2.1 with
      | false => simp [hv] at h1
      | true => exact ⟨_, hb, Nat.eq_of_beq_eq_true hv⟩
     ·cases h1
    ·exact ih (xs := xs') (us := us') h2 c' hc
   ·cases h
theorem zGG {ops : Array Oper} {s : St} {o : Oper} {fo : Operand} {f : Nat} {caps : List (Nat × Nat × Nat)} {args : Array Operand} {ts : Array TypeId} (hop : o.op = .call ⟨.value fo, args, ts⟩) (hgd : zBT ops s o = .free) (hfo : (s.ev fo).strip = .one (.clo f caps)) {az : List D} {us : zBa} {r : D}
  (has : zBi s.mem ((args.toList.map fun x => (s.ev x).strip) ++ zET caps) = some (az, us)) (hn : ∀ p ∈ zAR s (fo :: args.toList), p) (hfn : FnD P f az r) (hd : zB0 X.nt o.dst = true) : OpT P X ops o s (s.app o.dst r us) := by
 intro Q a w ⟨μ, hM, hsz, hdf, hr⟩
 rw [if_pos (zCa hgd a)]
 obtain ⟨⟨fn, c, k1, k2, k34⟩, hfn⟩ := hfn
 obtain ⟨k3, k4⟩ := Bool.or_eq_false_iff.1 k34
 obtain ⟨r1, r2, r3, r4⟩ := RM.pubs us s.mem hM (zCM has)
 have hf := zAA (zBn hr fo) (zAC hn fo (List.mem_cons_self ..))
 rw [hfo] at hf
 obtain ⟨vs0, hfv, hl0, hcap⟩ := hf
 rw [zCG k4] at hfv
 have hcaps : ∀ (cs : List (Nat × Nat × Nat)) (us : List Value), (∀ c ∈ cs, ∃ b, s.mem c.1 = some b /\ b.ver = c.2.1) -> cs.length = us.length -> (∀ (i : Nat) c u, cs[i]? = some c -> us[i]? = some u -> zKv ⟨s.mem, μ⟩ c.1 c.2.1 fun g => u = .pointer (some ⟨g, c.2.2, none⟩)) -> (zET cs).length = us.length /\ ∀ (i : Nat) d u, (zET cs)[i]? = some d -> us[i]? = some u -> zAy ⟨s.mem, μ⟩ (CW X ⟨s.mem, μ⟩ w) w d u := by
  intro cs
  induction cs with
  | nil => intro us _ h _; exact ⟨h, fun i d u hd => nomatch hd⟩
  | cons c cs ih =>
   intro us h0 h1 h2
   cases us with
   | nil => cases h1
   | cons u us =>
    obtain ⟨k1, k2⟩ := ih us (fun c hc => h0 c (List.mem_cons_of_mem _ hc)) (by simpa using h1) (fun i c u hc hu => h2 (i + 1) c u (by simpa using hc) (by simpa using hu))
    refine ⟨by simp [zET, k1], fun i d v hd hv => ?_⟩
    cases i with
    | zero =>
     simp [zET] at hd hv
     subst hd
     subst hv
     have hlv := h2 0 c u rfl rfl
     refine ⟨?_, hlv⟩
     obtain ⟨b, e1, e2⟩ := h0 c (List.mem_cons_self ..)
     obtain ⟨blk, q1, q2, q3⟩ := hlv
     have q1 : s.mem c.1 = some blk := q1
     rw [e1] at q1
     cases q1
     obtain ⟨g, _, rfl⟩ := q3 e2.symm
     rfl
    | succ i => exact k2 i d v (by simpa [zET] using hd) (by simpa using hv)
 obtain ⟨z1, z2⟩ := hcaps caps vs0 (zKe has) hl0 hcap
 have hrep := zCc (vs := (args.map a.eval).toList ++ vs0) r1 ⟨by simp [z1], fun i d v hd hv => by
  by_cases hi : i < args.size
  ·rw [List.getElem?_append_left (by simpa using hi)] at hd hv
   simp only [List.getElem?_map, Array.toList_map, Option.map_eq_some_iff] at hd hv
   obtain ⟨x, hx, rfl⟩ := hd
   obtain ⟨y, hy, rfl⟩ := hv
   rw [hx] at hy
   cases hy
   exact (zAA (zBn hr x) (zAC hn x (List.mem_cons_of_mem _ (List.mem_of_getElem? hx)))).kept r2
  ·rw [List.getElem?_append_right (by simpa using hi)] at hd hv
   simp only [List.length_map, Array.length_toList, Array.toList_map] at hd hv
   exact (z2 _ d v hd hv).kept r2⟩ has r3
 have hcall : (execOp a.eval o).run P w = .ok (.enter f (args.map a.eval ++ vs0.toArray)) w := by
  have hb : fn.body.isNone = false := by rw [k2]; rfl
  have hne : ¬ (fn.name = "runtime.NumGoroutine") := by simpa using k3
  simp [execOp, hop, resolve, hfv, Deferred.ofValue, invoke, callFunc, k1, hne, k2]
 unfold Oper.wp
 rw [hcall, Oper.upon_enter]
 have hl : (args.map a.eval ++ vs0.toArray).toList = (args.map a.eval).toList ++ vs0 := by simp
 let I : Nat -> Nat -> Prop := fun b o => (¬ X.own b -> X.I b o) /\ (X.own b -> ∀ id blk, zBd s.mem us id = some blk -> μ id = some b -> o < blk.pub)
 refine (hfn w (args.map a.eval ++ vs0.toArray) I (by rw [hl]; exact ⟨hrep.1, fun i d v hd hv => (hrep.2 i d v hd hv).kept (zCC fun b o u h => ⟨h.1, h.2⟩)⟩)).mono ?_
 rintro e w' ⟨v, rfl, hbel, hv⟩
 obtain ⟨q1, q2⟩ := r1.call hbel
 have hv' : zAy ⟨zBd s.mem us, μ⟩ (CW X ⟨zBd s.mem us, μ⟩ w') w' r v := hv.kept (zCC fun b o u h => by
  obtain ⟨h1, h2⟩ := h
  rcases h2 with ⟨h2, h3⟩ | h2
  ·exact ⟨h1, h2, h3⟩
  ·refine ⟨h1, fun hno => absurd (.inl (Nat.le_trans r1.bel.size h2)) hno, fun _ id blk m1 m2 => ?_⟩
   have m2 : μ id = some b := m2
   have := r1.blk id blk m1
   simp only [zAP, m2] at this
   obtain ⟨_, _, _, _, cur, e, lo, hi, g4, _⟩ := this
   exact absurd (Nat.lt_of_lt_of_le (Array.getElem?_eq_some_iff.1 g4).1 h2) (Nat.lt_irrefl _))
 exact ⟨μ, q1, by cases o.dst <;> simp [Act.put, hsz], by cases o.dst <;> exact hdf, zBF (us := us) hr (r2.trans q2) hv' hsz hd⟩
theorem zJL {ops : Array Oper} {s : St} {o : Oper} {fo : Operand} {f : Nat} {args : Array Operand} {ts : Array TypeId} {q : Prop} (hop : o.op = .call ⟨.value fo, args, ts⟩) (hgd : zBT ops s o = .iff q) (hfo : (s.ev fo).strip = .one (.clo f [])) {az : List D} {r : D}
  (has : zBi s.mem (args.toList.map fun x => (s.ev x).strip) = some (az, [])) (hn : q -> ∀ p ∈ zAR s (fo :: args.toList), p) (hfn : q -> FnD P f az r) (hd : zB0 X.nt o.dst = true) : OpT P X ops o s (s.app o.dst (.gd q r) []) := by
 intro Q a w hR0
 have hR0' := hR0
 obtain ⟨μ, hM, hsz, hdf, hr⟩ := hR0
 have hiff := zMq hgd hr
 by_cases hq : q
 ·rw [if_pos (hiff.2 hq)]
  have := zIp (ops := ops) (o := { o with guard := none }) (us := []) hop (by unfold zBT; rfl) hfo has (hn hq) (hfn hq) hd Q a w hR0'
  rw [if_pos (by simp [Region.wanted])] at this
  have hm : ∀ a' w', R X (s.app o.dst r []) a' w' -> R X (s.app o.dst (.gd q r) []) a' w' := by
   rintro a' w' ⟨μ', hM', hsz', hdf', hr'⟩
   refine ⟨μ', hM', hsz', hdf', fun t => ?_⟩
   have := hr' t
   cases hdst : o.dst with
   | none => rw [hdst] at this; exact this
   | some t' =>
    rw [hdst] at this
    by_cases ht : t = t'
    ·subst ht
     simp only [St.app, zAn] at this ⊢
     exact ⟨fun _ => this, fun hn => absurd hq hn⟩
    ·simp only [St.app, zAB _ _ ht] at this ⊢
     exact this
  exact Oper.wp_mono (P := P) (Q := Q) hm this
 ·rw [if_neg (fun hw => hq (hiff.1 hw))]
  exact ⟨μ, hM, by cases o.dst <;> simp [Act.put, hsz], by cases o.dst <;> exact hdf, zBF (d := .gd q r) (v := undef) hr Kept.rfl' ⟨fun h => absurd h hq, fun _ => rfl⟩ hsz hd []⟩
end
def zSs (T : Nat -> Option TI) (s : St) : List ResultVar -> Option (Prop × List D)
 | [] => some (True, [])
 | .tmp t :: r =>
  match zSs T s r with
  | some (φ, ds) =>
   match s.tm t with
   | .gd q d => some (q /\ φ, d :: ds)
   | d => some (φ, d :: ds)
  | none => none
 | .cell t ty :: r =>
  match T ty, zSs T s r with
  | some ti, some (φ, ds) =>
   match zEN ti s.mem (s.tm t) with
   | some (φ', d) => some (φ' /\ φ, d :: ds)
   | none => none
  | _, _ => none
def zSe : D -> Bool × Cs
 | .one (.e x) => (false, .es [x])
 | .agg c => (true, c)
 | _ => (false, .es [])
def zKw : D -> Bool
 | .one (.e _) => true
 | .agg _ => true
 | _ => false
def zNo : List D -> D
 | [d] => d
 | ds => .tup (ds.map zSe)
def zKS : ResultVar -> Bool
 | .tmp t => Nat.blt t 900000
 | .cell a _ => Nat.blt a 900000
def zTj (T : Nat -> Option TI) (s : St) (rs : List ResultVar) : Option (Prop × D) :=
 match (bif rs.all zKS then zSs T s rs else none) with
 | some (φ, ds) =>
  match zBi s.mem ds with
  | some (xs, _) => bif xs.all zKw then some (φ, zNo xs) else none
  | none => none
 | none => none
def Ends (T : Nat -> Option TI) (rs : List ResultVar) (r : D) (e : Exit) (s : St) : Prop :=
 (e = .normal \/ e = .ret) /\ ∃ φ r', zTj T s rs = some (φ, r') /\ φ /\ r' = r
def zDp : List D -> Nat -> D
 | [], _ => .any
 | d :: _, 0 => d
 | _ :: r, n + 1 => zDp r n
def St.start (args : List D) : St := ⟨zDp args, fun _ => none⟩
def zSt (tmps : Array Value) (x : ResultVar) : Sem Value :=
 match x with
 | .tmp t => pure (tmps.getD t undef)
 | .cell a t => do loadVar t (<-asAddr (tmps.getD a undef))
section
variable {P : Program} {T : Nat -> Option TI} {X : Ctx}
theorem zCl : ∀ (l : List D) (i : Nat), zDp l i = (l[i]?).getD .any
 | [], i => by simp [zDp]
 | d :: r, 0 => rfl
 | d :: r, n + 1 => by rw [zDp, zCl r n]; simp
theorem zEc (hT : TOk P T) {s : St} {a : Act} {w : World} {μ : Nat -> Option Nat} (hM : RM X ⟨s.mem, μ⟩ w) (hr : ∀ t, zAy ⟨s.mem, μ⟩ (CW X ⟨s.mem, μ⟩ w) w (s.tm t) (zAL X.xg a.tmps t)) : ∀ {rs : List ResultVar} {φ : Prop} {ds : List D}, (∀ x ∈ rs, zKS x = true) -> zSs T s rs = some (φ, ds) -> φ ->
  ∃ vs : List Value, (rs.mapM (zSt a.tmps)).run P w = .ok vs w /\ ds.length = vs.length /\ ∀ (i : Nat) d v, ds[i]? = some d -> vs[i]? = some v -> zAy ⟨s.mem, μ⟩ (CW X ⟨s.mem, μ⟩ w) w d v
 | [], φ, ds, _, h, _ => by cases h; exact ⟨[], rfl, rfl, fun i d v h => nomatch h⟩
 | .tmp t :: r, φ, ds, hok, h, hφ => by
  have hlt : t < 900000 := Nat.blt_eq.mp (hok _ (List.mem_cons_self ..))
  have hok' := fun x hx => hok x (List.mem_cons_of_mem _ hx)
  rw [zSs] at h
  split at h
  ·rename_i φ' ds' h1
   have key : ∃ d, ds = d :: ds' /\ φ' /\ zAy ⟨s.mem, μ⟩ (CW X ⟨s.mem, μ⟩ w) w d (a.tmps.getD t undef) := by
    have hrt := hr t
    rw [zCq hlt] at hrt
    split at h
    ·rename_i q d he; cases h; rw [he] at hrt; exact ⟨d, rfl, hφ.2, hrt.1 hφ.1⟩
    ·cases h; exact ⟨_, rfl, hφ, hrt⟩
   obtain ⟨d0, rfl, hφ', hd0⟩ := key
   obtain ⟨vs, k1, k2, k3⟩ := zEc hT hM hr hok' h1 hφ'
   refine ⟨a.tmps.getD t undef :: vs, by rw [List.mapM_cons]; simp only [zSt, Sem.run_bind, Sem.run_pure, Result.andThen_ok, k1], by simp [k2], fun i d v hd hv => ?_⟩
   cases i with
   | zero => simp only [List.getElem?_cons_zero, Option.some.injEq] at hd hv; subst hd; subst hv; exact hd0
   | succ i => exact k3 i d v (by simpa using hd) (by simpa using hv)
  ·cases h
 | .cell t ty :: r, φ, ds, hok, h, hφ => by
  have hlt : t < 900000 := Nat.blt_eq.mp (hok _ (List.mem_cons_self ..))
  have hok' := fun x hx => hok x (List.mem_cons_of_mem _ hx)
  rw [zSs] at h
  split at h
  ·rename_i ti φ' ds' hti h1
   split at h
   ·rename_i φ'' d h2
    cases h
    obtain ⟨vs, k1, k2, k3⟩ := zEc hT hM hr hok' h1 hφ.2
    obtain ⟨v, e1, e2⟩ := zHO hT hM hti (zCq hlt ▸ hr t) h2 hφ.1
    have hrun : (zSt a.tmps (.cell t ty)).run P w = .ok v w := by
     show (do loadVar ty (<-asAddr (a.tmps.getD t undef)) : Sem Value).run P w = .ok v w
     have hp : ∃ ad, a.tmps.getD t undef = .pointer (some ad) := by
      generalize a.tmps.getD t undef = u at e1
      unfold Instr.loadAt Instr.sureAddr at e1
      cases u with
      | pointer ad => cases ad with
       | none => simp at e1
       | some ad => exact ⟨ad, rfl⟩
      | _ => simp at e1
     obtain ⟨ad, hp⟩ := hp
     rw [hp] at e1 ⊢
     simpa [Instr.loadAt, Instr.sureAddr, asAddr] using e1
    refine ⟨v :: vs, by rw [List.mapM_cons]; simp only [Sem.run_bind, hrun, Sem.run_pure, Result.andThen_ok, k1], by simp [k2], fun i d v hd hv => ?_⟩
    cases i with
    | zero => simp only [List.getElem?_cons_zero, Option.some.injEq] at hd hv; subst hd; subst hv; exact e2
    | succ i => exact k3 i d v (by simpa using hd) (by simpa using hv)
   ·cases h
  ·cases h
theorem zN3 {C : Nat -> Nat -> Value -> Prop} {w : World} {d : D} {v : Value} (h : zAy p0 C w d v) (hd : zKw d = true) : zMP p0 C w (zSe d) v := by
 unfold zKw at hd
 split at hd
 ·rename_i x
  refine ⟨rfl, fun i y u hy hu => ?_⟩
  cases i with
  | zero => simp [Cs.d0] at hy hu; subst hy; subst hu; exact h
  | succ i => simp [Cs.d0] at hy
 ·exact h
 ·cases hd
theorem zGR {C : Nat -> Nat -> Value -> Prop} {w : World} {ds : List D} {vs : List Value} (h : zHy C w ds vs) (hd : ds.all zKw = true) : zAy p0 C w (zNo ds) (if h : vs.toArray.size = 1 then vs.toArray[0] else .tuple vs.toArray) := by
 by_cases h1 : vs.length = 1
 ·obtain ⟨v, rfl⟩ := List.length_eq_one_iff.1 h1
  obtain ⟨d, rfl⟩ := List.length_eq_one_iff.1 (h.1.trans h1)
  exact h.2 0 d v rfl rfl
 ·rw [dif_neg (by simpa using h1)]
  have hj : zNo ds = .tup (ds.map zSe) := by
   unfold zNo
   split
   ·rename_i d
    exact absurd (by rw [<-h.1]; rfl) h1
   ·rfl
  rw [hj]
  refine ⟨vs, rfl, by simp [h.1], fun i x u hx hu => ?_⟩
  simp only [List.getElem?_map, Option.map_eq_some_iff] at hx
  obtain ⟨d, hd', rfl⟩ := hx
  exact zN3 (h.2 i d u hd' hu) (List.all_eq_true.1 hd d (List.mem_of_getElem? hd'))
theorem zAy.p0_own {C C' : Nat -> Nat -> Value -> Prop} {w : World} {d : D} {v : Value} (h : ∀ b o u, C b o u -> C' b o u) (hv : zAy p0 C w d v) : zAy p0 C' w d v := hv.kept (zCC h)
theorem zQQ (hT : TOk P T) {f : Nat} {fn : Func} {c : Code} (hf : P.funcs[f]? = some fn) (hb : fn.body = some c) (hname : (fn.name == "runtime.NumGoroutine") = false) {args : List D} {r : D} (hn : args.length <= fn.ntmps)
  (h : ∀ X : Ctx, X.nt = fn.ntmps -> Tr P X c (St.start args) (Ends T fn.results.toList r)) (hbig : Nat.ble fn.ntmps 900000 = true := by rfl) (hlt : Nat.ble 1048576 f = false := by rfl) : FnD P f args r := by
 refine ⟨⟨fn, c, hf, hb, Bool.or_eq_false_iff.2 ⟨hname, hlt⟩⟩, fun w vs I hargs => ?_⟩
 have hlen : args.length = vs.size := by simpa using hargs.1
 let X : Ctx := ⟨w, I, fn.ntmps, Nat.le_of_ble_eq_true hbig, fun _ => False, fun _ => 0, []⟩
 refine calls_of_wp hf hb (wp_mono (h X rfl _ w ⟨fun _ => none, ⟨Bel.refl _, fun id blk hb => nomatch hb⟩, by show (vs ++ Array.replicate (fn.ntmps - vs.size) undef).size = fn.ntmps; simp; omega, rfl, fun t => ?_⟩) fun e a w' ⟨s', hE, hR⟩ => ?_)
 ·show zAy p0 _ w (zDp args t) _
  rw [zCl]
  cases hd : args[t]? with
  | none => trivial
  | some d =>
   have ht : t < vs.size := by rw [<-hlen]; exact (List.getElem?_eq_some_iff.1 hd).1
   have hv : zAL X.xg (vs ++ Array.replicate (fn.ntmps - vs.size) undef) t = vs[t] := by
    have := Nat.le_of_ble_eq_true hbig
    rw [zCq (by omega), Array.getD_eq_getD_getElem?, Array.getElem?_append_left ht, Array.getElem?_eq_getElem ht]
    rfl
   simp only [Option.getD_some]
   rw [hv]
   refine (hargs.2 t d vs[t] hd (by simp [ht])).p0_own fun b o u h => ⟨h.1, fun _ => h.2, fun _ id blk hb => nomatch hb⟩
 ·obtain ⟨hend, φ, r', hres, hφ, rfl⟩ := hE
  obtain ⟨μ, hM, hsz, hdf, hr⟩ := hR
  unfold zTj at hres
  split at hres
  ·rename_i φ' ds h1
   split at hres
   ·rename_i xs us h2
    cases hall : xs.all zKw with
    | false => simp [hall] at hres
    | true =>
     simp only [hall, cond_true, Option.some.injEq, Prod.mk.injEq] at hres
     obtain ⟨rfl, rfl⟩ := hres
     cases hro : fn.results.toList.all zKS with
     | false => rw [hro] at h1; cases h1
     | true =>
     rw [hro] at h1
     obtain ⟨us', k1, k2, k3⟩ := zEc hT hM hr (fun x hx => List.all_eq_true.1 hro x hx) h1 hφ
     obtain ⟨r1, r2, r3, r4⟩ := RM.pubs us s'.mem hM (zCM h2)
     have hd := zCc (vs := us') r1 ⟨k2, fun i d v hd hv => (k3 i d v hd hv).kept r2⟩ h2 r3
     have hj := zGR hd hall
     have hrun : (results fn a.tmps).run P w' = .ok (if h : us'.toArray.size = 1 then us'.toArray[0] else .tuple us'.toArray) w' := by
      have he : results fn a.tmps = (do let vs <-fn.results.mapM (zSt a.tmps); pure (if h : vs.size = 1 then vs[0] else .tuple vs) : Sem Value) := rfl
      rw [he, Sem.run_bind, Array.mapM_eq_mapM_toList, Sem.run_map, k1]
      rfl
     have hfin : bodyPost P fn (fun e w'' => ∃ v, e = .returned v /\ Below w.heap.size w w'' /\ zAy p0 (CI' w w'' I) w'' (zNo xs) v) .normal a w' :=
      ⟨hdf, _, hrun, _, rfl, r1.bel.toBelow (fun _ h => h), hj.p0_own fun b o u hc => ⟨hc.1, (Nat.lt_or_ge b w.heap.size).imp (fun hlt => hc.2.1 fun h => h.elim (fun h => Nat.not_lt.2 h hlt) id) id⟩⟩
     rcases hend with rfl | rfl
     ·exact hfin
     ·exact hfin
   ·cases hres
  ·cases hres
end
end Go.Proofs.YtcdifgacoleckaaGreatDoor.Ab
