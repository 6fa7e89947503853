/- The other operations that make or write memory; all of them go as 'eff' says. No condition. -/
import Derived.Test.YtcjeeoimjkhijaaDoorAb12
import Derived.Lib.ConvBytes
import Derived.Laws.MakeOwn
namespace Go.Proofs.YtcjeeoimjkhijaaDoor.Ab
open Go Go.RowKit

section
variable {P : Program} {T : Nat → Option TI} {X : Ctx} {w : World} {p : Rho}

theorem RepPs.kept {p' : Rho} {C C' : Nat → Nat → Value → Prop} {w' : World} (h : Kept p C w p' C' w') : ∀ {ds : List (Nat × D)} {vs : List (Nat × Value)}, RepPs p C w ds vs → RepPs p' C' w' ds vs
  | [], [], _ => trivial
  | (i, d) :: r, (j, v) :: s, hr => ⟨hr.1, hr.2.1.kept h, RepPs.kept h hr.2.2⟩
  | [], _ :: _, hr => hr.elim
  | _ :: _, [], hr => hr.elim

/-- the elements of a slice literal -/
theorem elems_goes {m m' : Mem} {μ : Nat → Option Nat} (hR : RM X ⟨m', μ⟩ w) {sz : Nat} : ∀ {k : Nat} {ds : List (Nat × D)} {vs : List (Nat × Value)} {φ : Prop} {xs : List (List E)} {us : Upds},
    RepPs ⟨m', μ⟩ (CW X ⟨m', μ⟩ w) w ds vs → effElems m sz k ds = some (φ, xs, us) → φ → (∀ u ∈ us, m' u.1 = some u.2) →
    xs.length = ds.length ∧ (∀ cs ∈ xs, cs.length = sz) ∧ Rep2 ⟨m', μ⟩ (CW X ⟨m', μ⟩ w) w (xs.flatten.map .e) (vs.map fun q => q.2.cells.toList).flatten ∧ (∀ v ∈ vs.map (·.2), v.cells.size = sz) ∧ vs = ((vs.map (·.2)).zipIdx k).map (fun q => (q.2, q.1))
  | k, [], [], φ, xs, us, _, h, _, _ => by
    cases h
    exact ⟨rfl, (fun cs hc => nomatch hc), ⟨rfl, (fun i x u h => nomatch h)⟩, (fun v hv => nomatch hv), rfl⟩
  | k, (i, d) :: r, (j, v) :: s, φ, xs, us, hr, h, hφ, hu => by
    obtain ⟨rfl, hd, hrs⟩ := hr
    rw [effElems] at h
    cases hk : Nat.beq i k with
    | false => simp [hk] at h
    | true =>
      obtain rfl := Nat.eq_of_beq_eq_true hk
      simp only [hk, cond_true] at h
      split at h
      · rename_i c hc
        split at h
        · rename_i es u φ' xs' us' h1 h2
          cases h
          obtain ⟨f1, f2⟩ := hφ
          obtain ⟨k1, k2, k3, k4, k5⟩ := elems_goes hR hrs h2 f2 (fun u hu' => hu u (by simp [hu']))
          have hv := rep_cs hd hc
          have hf := frzC_rep hR hv h1 (fun u hu' => hu u (by simp [hu']))
          refine ⟨by simp [k1], fun cs hcs => ?_, ?_, fun v' hv' => ?_, ?_⟩
          · rcases List.mem_cons.1 hcs with rfl | hcs
            · exact f1
            · exact k2 cs hcs
          · simp only [List.flatten_cons, List.map_append, List.map_cons]
            exact rep2_append hf k3
          · rcases List.mem_cons.1 hv' with rfl | hv'
            · have := hf.1
              rw [List.length_map, f1] at this
              simpa using this.symm
            · exact k4 v' hv'
          · simp only [List.map_cons, List.zipIdx_cons]
            rw [← k5]
        · cases h
      · cases h
  | k, [], _ :: _, _, _, _, hr, _, _, _ => hr.elim
  | k, _ :: _, [], _, _, _, hr, _, _, _ => hr.elim

theorem elems_ok {m : Mem} {sz : Nat} : ∀ {k : Nat} {ds : List (Nat × D)} {φ : Prop} {xs : List (List E)} {us : Upds}, effElems m sz k ds = some (φ, xs, us) → PubOk m us
  | k, [], _, _, _, h => by cases h; exact fun u hu => nomatch hu
  | k, (i, d) :: r, φ, xs, us, h => by
    rw [effElems] at h
    cases hk : Nat.beq i k with
    | false => simp [hk] at h
    | true =>
      simp only [hk, cond_true] at h
      split at h
      · split at h
        · rename_i es u φ' xs' us' h1 h2
          cases h
          intro v hv
          rcases List.mem_append.1 hv with hv | hv
          · exact frzC_ok h1 v hv
          · exact elems_ok h2 v hv
        · cases h
      · cases h

theorem all_ne {us : Upds} {id : Nat} (h : (us.all fun u => !Nat.beq u.1 id) = true) : ∀ u ∈ us, u.1 ≠ id := fun u hu e => by
  have := List.all_eq_true.1 h u hu
  rw [e] at this
  simp at this

theorem fill_list (sz : Nat) (hs : 0 < sz) (vs : List Value) (cells : Array Value) (h1 : ∀ v ∈ vs, v.cells.size = sz) (hn : vs.length * sz = cells.size) :
    ∃ out : Array Value, Instr.fill (fun i => some (i * sz, sz)) cells (vs.zipIdx.map fun q => (q.2, q.1)) = some out ∧ out.toList = (vs.map fun v => v.cells.toList).flatten := by
  have key : ∀ (vs : List Value) (k : Nat) (cells : Array Value) (pre : List Value), (∀ v ∈ vs, v.cells.size = sz) → pre.length = k * sz → (k + vs.length) * sz = cells.size → cells.toList.take (k * sz) = pre →
      ∃ out : Array Value, Instr.fill (fun i => some (i * sz, sz)) cells ((vs.zipIdx k).map fun q => (q.2, q.1)) = some out ∧ out.toList = pre ++ (vs.map fun v => v.cells.toList).flatten := by
    intro vs
    induction vs with
    | nil =>
      intro k cells pre _ hp hc ht
      refine ⟨cells, rfl, ?_⟩
      simp only [List.map_nil, List.flatten_nil, List.append_nil]
      rw [← ht, List.take_of_length_le]
      simp only [List.length_nil, Nat.add_zero] at hc
      simp [hc]
    | cons v vs ih =>
      intro k cells pre h1 hp hc ht
      have hv := h1 v (by simp)
      simp only [List.length_cons] at hc
      have hle : k * sz + sz ≤ cells.size := by
        rw [← hc, ← Nat.succ_mul]
        exact Nat.mul_le_mul_right _ (by omega)
      simp only [List.zipIdx_cons, List.map_cons]
      obtain ⟨cs', e1, e2⟩ := fill_one (place := fun i => some (i * sz, sz)) (cells := cells) (rest := (vs.zipIdx (k + 1)).map fun q => (q.2, q.1)) (i := k) (v := v) rfl hv hle
      rw [e1]
      have hcs : cs'.size = cells.size := by
        rw [← Array.length_toList, e2]
        simp [hv]
        omega
      obtain ⟨out, o1, o2⟩ := ih (k + 1) cs' (pre ++ v.cells.toList) (fun u hu => h1 u (by simp [hu])) (by simp [hp, hv, Nat.succ_mul]) (by rw [hcs, ← hc]; congr 1; omega) (by
        rw [e2, ht, List.take_append_of_le_length (by simp [hp, hv, Nat.succ_mul]), List.take_of_length_le (by simp [hp, hv, Nat.succ_mul])])
      exact ⟨out, o1, by rw [o2]; simp⟩
  obtain ⟨out, o1, o2⟩ := key vs 0 cells [] h1 (by simp) (by simpa using hn) (by simp)
  exact ⟨out, o1, by simpa using o2⟩

theorem buildSlice_goes (hT : TOk P T) (hR : RM X p w) {t len id : Nat} {ps : Array (Nat × Operand)} {ev : Ev} {o : Oper} {ρ : Operand → Value} (ho : o.op = .buildSlice t len ps) (hρ : ∀ q ∈ ps.toList, RepD p (CW X p w) w (ev q.2) (ρ q.2)) {ef : Ef}
    (h : effBuildSl T p.mem id t len (ps.toList.map fun q => (q.1, ev q.2)) = some ef) (hφ : ef.φ) : Goes P X p w o ρ ef := by
  have hps := repPs_map (p := p) (C := CW X p w) (w := w) ps.toList hρ
  have hmap : (ps.map fun (i, x) => (i, ρ x)).toList = ps.toList.map fun q => (q.1, ρ q.2) := by simp
  generalize (ps.toList.map fun q => (q.1, ρ q.2)) = vs at hps hmap
  generalize (ps.toList.map fun q => (q.1, ev q.2)) = ds at hps h
  unfold effBuildSl at h
  split at h
  · rename_i a b e z ht
    have hu := slice_of hT ht
    split at h
    · rename_i ti hti
      have htik := hT _ _ hti
      split at h
      · rename_i φ xs us he
        cases hc : (Nat.beq ti.size 0 || !Nat.beq ds.length len || !(us.all fun u => !Nat.beq u.1 id)) with
        | true => simp [hc] at h
        | false =>
          simp only [hc, cond_false, Option.some.injEq] at h
          simp only [Bool.or_eq_false_iff, Bool.not_eq_false'] at hc
          obtain ⟨⟨c1, c2⟩, c3⟩ := hc
          have hz0 : 0 < ti.size := Nat.pos_of_ne_zero fun e => by rw [e] at c1; cases c1
          obtain rfl := Nat.eq_of_beq_eq_true c2
          subst h
          obtain ⟨f1, f2, f4⟩ := hφ
          obtain ⟨m, μ⟩ := p
          obtain ⟨r1, r2, r3, r4⟩ := RM.pubs us m hR (elems_ok he)
          obtain ⟨k1, k2, k3, k4, k5⟩ := elems_goes r1 (hps.kept r2) he f1 r3
          have hvl : (vs.map (·.2)).length = ds.length := by
            have : ∀ (ds : List (Nat × D)) (vs : List (Nat × Value)), RepPs ⟨m, μ⟩ (CW X ⟨m, μ⟩ w) w ds vs → vs.length = ds.length := by
              intro ds
              induction ds with
              | nil => intro vs h; cases vs with
                | nil => rfl
                | cons => exact h.elim
              | cons d ds ih => intro vs h; cases vs with
                | nil => exact h.elim
                | cons v vs => simp [ih vs h.2.2]
            rw [List.length_map, this ds vs hps]
          have hvz : (vs.map fun q => q.2.cells.toList).flatten = ((vs.map (·.2)).map fun v => v.cells.toList).flatten := by rw [List.map_map]; rfl
          generalize hvv : vs.map (·.2) = us' at k4 k5 hvl hvz
          obtain ⟨zv, hz1, hz2⟩ := zero_run (w := w) htik
          obtain ⟨zz, hzz⟩ : ∃ zz : Array Value, (if ds.length * ti.size = 0 then pure #[] else do pure (← zeroValue e).cells : Sem (Array Value)).run P w = .ok zz w := by
            by_cases h0 : ds.length * ti.size = 0
            · exact ⟨#[], by rw [if_pos h0]; rfl⟩
            · exact ⟨zv.cells, by rw [if_neg h0]; simp [hz1]⟩
          obtain ⟨out, o1, o2⟩ := fill_list ti.size hz0 us' ((Array.range (ds.length * ti.size)).map fun q => zz[q % zz.size]!) k4 (by rw [hvl]; simp)
          rw [← k5] at o1
          have hrun : (execOp ρ o).run P w = .ok (.value (.slice (some ⟨w.heap.size, 0, none⟩) ds.length ds.length)) (w.alloc (.cells out e)) := by
            have hno : ¬ (ds.length * ti.size > 2 ^ 24) := by omega
            have hb : (Instr.buildSlice t ds.length (ps.map fun (i, x) => (i, ρ x))).run P w = .ok (.slice (some ⟨w.heap.size, 0, none⟩) ds.length ds.length) (w.alloc (.cells out e)) := by
              by_cases h0 : ds.length * ti.size = 0
              · rw [if_pos h0] at hzz
                cases hzz
                have o1' : Instr.fill (fun i => some (i * ti.size, ti.size)) ((Array.range (ds.length * ti.size)).map fun q => (#[] : Array Value)[q % (#[] : Array Value).size]!) vs = some out := o1
                simp only [Instr.buildSlice, Sem.run_bind, run_underlying hu, Result.andThen_ok, htik.size, hno, if_false, if_pos h0, hmap, Sem.run_pure]
                rw [o1']
                simp [newRow]
              · rw [if_neg h0] at hzz
                simp only [Sem.run_bind, hz1, Result.andThen_ok, Sem.run_pure, Result.ok.injEq] at hzz
                obtain ⟨rfl, _⟩ := hzz
                simp only [Instr.buildSlice, Sem.run_bind, run_underlying hu, Result.andThen_ok, htik.size, hno, if_false, if_neg h0, hz1, hmap, Sem.run_pure]
                have o1' : Instr.fill (fun i => some (i * ti.size, ti.size)) ((Array.range (ds.length * ti.size)).map fun q => zv.cells[q % zv.cells.size]!) vs = some out := o1
                rw [o1']
                simp [newRow]
            simp only [execOp, ho, Sem.run_bind, hb, Result.andThen_ok]
            rfl
          have hol : out.size = ds.length * ti.size := by
            have h1 := k3.1
            rw [List.length_map, flatten_len xs k2, k1, hvz, ← o2, Array.length_toList] at h1
            exact h1.symm
          have ra := row_alloc (X := X) (p := ⟨appU m us, μ⟩) r1 (ob := out) (t := e) (lo := 0) (hi := 0) (id := id) (ver := nver m id) (z := ti.size) (cap := ds.length) (xs := xs) (pub := 0) (w.alloc (.cells out e)) rfl rfl rfl rfl (by omega) hz0 k2 (fun b hb => by
            have hb : appU m us id = some b := hb
            rw [r4 id (all_ne c3)] at hb
            exact nver_lt (p := ⟨m, μ⟩) b hb) (Nat.zero_le _) (by rw [k1]; exact Nat.le_refl _) (by simp only [maxLen]; omega) (by rw [hol]; exact Nat.le_refl _) k3 (fun i u hu => by
              rw [hvz, ← o2] at hu
              rw [← Array.getElem?_toList]
              exact hu)
          rw [k1] at ra
          refine ⟨_, _, upd μ id (some w.heap.size), .inl hrun, ?_⟩
          simp only [appU_append]
          exact ⟨ra.1, r2.trans ra.2.1, ra.2.2⟩
      · cases h
    · cases h
  · cases h

theorem byteCells_get (s : ByteArray) : (byteCells s).length = s.size := byteCells_length s

theorem bytes_goes (hT : TOk P T) (hR : RM X p w) {s dt id : Nat} {x : Operand} {dx : D} {o : Oper} {ρ : Operand → Value} (ho : o.op = .convert s dt x) (hx : RepD p (CW X p w) w dx (ρ x)) {ef : Ef}
    (h : effBytes T p.mem id s dt dx = some ef) (hφ : ef.φ) : Goes P X p w o ρ ef := by
  unfold effBytes at h
  split at h
  · rename_i a b z a' b' e z' str hs hd
    have hus := str_of hT hs
    have hud := slice_of hT hd
    split at h
    · rename_i b'' z'' hte
      have hue := int_of hT hte
      cases h
      have hρx := repV hx
      obtain ⟨i0, d0, z0, g1, g2, _⟩ := (hT _ _ hs).out
      have hge : str.size ≤ grownCap w str.size 0 e := grownCap_ge w str.size 0 e
      have hle : grownCap w str.size 0 e ≤ maxLen := grownCap_le_maxLen w str.size 0 e hφ
      have hbl : (byteCells str).length = str.size := byteCells_length str
      have hbc : (Lib.bytesCells w e str).size = grownCap w str.size 0 e ∧ ∀ (i : Nat) u, (byteCells str)[i]? = some u → (Lib.bytesCells w e str)[i]? = some u := by
        have hel : (str.data.map fun b => Value.int .u8 (b.toNat : Int)) = (byteCells str).toArray := by
          apply Array.ext'
          simp [byteCells]
        unfold Lib.bytesCells
        rw [hel]
        refine ⟨by simp only [Array.size_append, List.size_toArray, Array.size_replicate, hbl]; omega, fun i u hu => ?_⟩
        rw [Array.getElem?_append_left (by simpa using (List.getElem?_eq_some_iff.1 hu).1)]
        simpa using hu
      have hheap : (Lib.bytesWorld w e str).heap = w.heap.push (.cells (Lib.bytesCells w e str) e ((Lib.bytesCells w e str).size, (Lib.bytesCells w e str).size + 1)) := by
        apply Array.ext
        · rw [Lib.bytesWorld_size]; simp
        · intro i h1 h2
          rw [Lib.bytesWorld_size] at h1
          have : (Lib.bytesWorld w e str).heap[i]? = (w.heap.push (.cells (Lib.bytesCells w e str) e ((Lib.bytesCells w e str).size, (Lib.bytesCells w e str).size + 1)))[i]? := by
            by_cases hi : i = w.heap.size
            · subst hi
              rw [Lib.bytesWorld_at_new]; simp
            · rw [Lib.bytesWorld_at_old _ _ _ _ (by omega), Array.getElem?_push, if_neg hi]
          rw [Array.getElem?_eq_getElem (by rw [Lib.bytesWorld_size]; exact h1), Array.getElem?_eq_getElem h2] at this
          exact Option.some.inj this
      have hrun : (execOp ρ o).run P w = .ok (.value (.slice (some ⟨w.heap.size, 0, none⟩) str.size (grownCap w str.size 0 e))) (Lib.bytesWorld w e str) := by
        have := Lib.run_convert_string_bytes (P := P) w s dt e str g2 hud hue
        rw [← hρx] at this
        simp only [execOp, ho, Sem.run_bind, this, Result.andThen_ok]
        rfl
      have hfr : (Lib.bytesWorld w e str).os = w.os ∧ (Lib.bytesWorld w e str).tape = w.tape ∧ (Lib.bytesWorld w e str).output = w.output := ⟨rfl, rfl, rfl⟩
      have ra := row_alloc (X := X) (p := p) hR (ob := Lib.bytesCells w e str) (t := e) (lo := (Lib.bytesCells w e str).size) (hi := (Lib.bytesCells w e str).size + 1) (id := id) (ver := nver p.mem id) (z := 1) (cap := grownCap w str.size 0 e) (xs := strBytes str) (pub := 0) (Lib.bytesWorld w e str) hheap hfr.1 hfr.2.1 hfr.2.2 (fun _ => Nat.le_refl _) (by omega) (fun cs hc => by
          unfold strBytes at hc
          obtain ⟨b, _, rfl⟩ := List.mem_map.1 hc
          rfl) nver_lt (Nat.zero_le _) (by rw [strBytes_len]; exact hge) hle (by rw [hbc.1]; omega) (strBytes_rep str) hbc.2
      rw [strBytes_len] at ra
      exact ⟨_, _, _, .inl hrun, ra.1, ra.2.1, ra.2.2⟩
    · cases h
  · cases h

theorem trunc_goes (hT : TOk P T) (hR : RM X p w) {t i ver : Nat} {x : Operand} {lo hi : Option Operand} {ev : Ev} {o : Oper} {ρ : Operand → Value} (ho : o.op = .slice t x lo hi none) (hx : Rep0 p (CW X p w) w (.own i ver) (ρ x)) (hhi : ∀ y, hi = some y → RepD p (CW X p w) w (ev y) (ρ y)) {ef : Ef}
    (h : truncO T p.mem t i ver (lo.map ev) (hi.map ev) = some ef) (hφ : ef.φ) : Goes P X p w o ρ ef := by
  unfold truncO at h
  split at h
  · rename_i k n a b e s bv z xs hlo hhi' ht hb
    split at h
    · rename_i ti hti
      cases hv : (Nat.beq bv ver && Nat.beq z ti.size) with
      | false => simp [hv] at h
      | true =>
        simp only [hv, cond_true, Option.some.injEq] at h
        subst h
        rw [Bool.and_eq_true] at hv
        obtain rfl := Nat.eq_of_beq_eq_true hv.1
        obtain rfl := Nat.eq_of_beq_eq_true hv.2
        obtain ⟨f0, f1⟩ := hφ
        have hu := slice_of hT ht
        have hsz := (hT _ _ hti).size w
        obtain rfl : lo = none := Option.map_eq_none_iff.1 hlo
        obtain ⟨y, rfl, hy⟩ := Option.map_eq_some_iff.1 hhi'
        have hyv := hhi y rfl
        rw [hy] at hyv
        have hyv : ρ y = .int k n := repV hyv
        have hbd : ∀ len cap : Nat, n ≤ cap → (Instr.sliceBounds true len cap none (some (.int k n)) none).run P w = .ok (0, n.toNat, cap) w := fun len cap hc => by
          have := bounds_goes (P := P) (w := w) (C := CW X p w) (p := p) (lo := none) (hi := some (.one (.e (.v (.int k n))))) (vlo := none) (vhi := some (.int k n)) (fun _ h => nomatch h) (fun _ => rfl) (fun x hx => ⟨_, rfl, by cases hx; exact repV_mk rfl⟩) (fun h => nomatch h) (len := len) (cap := cap) rfl rfl (Int.le_refl 0) f0 hc true
          exact this
        obtain ⟨hz0, hzx⟩ := row_ok hR hb
        obtain ⟨_, blk, h1, h2, h3⟩ := hx
        rw [hb] at h1
        cases h1
        obtain ⟨z', n', q1, q2, q3⟩ := h3 rfl
        simp only [Body.shape, Prod.mk.injEq] at q1
        obtain ⟨rfl, rfl⟩ := q1
        rcases q3 with ⟨q3, A, hA⟩ | ⟨g, cap, g1, hA, g3, g4, g5⟩
        · have hx0 : xs = [] := List.eq_nil_of_length_eq_zero q3
          subst hx0
          have hn : n = 0 := by simp at f1; omega
          subst hn
          have hg := hR.ghost (id := i) (ver := bv + 1) q2 (fun b hb' => by rw [hb] at hb'; cases hb'; exact Nat.lt_succ_self _)
          have hbd := hbd 0 0 (Int.le_refl 0)
          refine ⟨.slice A 0 0, w, upd p.μ i none, .inl ?_, hg.1, hg.2, rfl, _, upd_same _ _ _, Nat.le_refl _, fun _ => ⟨ti.size, 0, rfl, q2, .inl ⟨rfl, A, rfl⟩⟩⟩
          simp only [execOp, ho, Sem.run_bind, Option.map_none, Option.map_some, hA, hyv]
          simp [Instr.sliceAt, Instr.slice, run_underlying hu, hbd, hsz]
        · have hbo := hR.blk i _ hb
          simp only [BlkOk, g1] at hbo
          obtain ⟨_, b1, b2, b3, cur, et, lo', hi', b4, b5, b6, b7⟩ := hbo
          have hcl : (xs.take n.toNat).flatten.map D0.e ++ (xs.drop n.toNat).flatten.map D0.e = xs.flatten.map D0.e := by
            rw [← List.map_append, ← List.flatten_append, List.take_append_drop]
          have hw := hR.write (blk' := ⟨bv + 1, .row ti.size (xs.take n.toNat), 0⟩) w hb g1 b4 b4 (fun _ _ => rfl) rfl rfl rfl rfl rfl (fun _ h => absurd h (Nat.not_lt_zero _)) (Nat.le_refl _) (Nat.zero_le _) (by
            have h6 : (xs.flatten.map D0.e).length ≤ cur.size := b6
            rw [← hcl, List.length_append] at h6
            show ((xs.take n.toNat).flatten.map D0.e).length ≤ cur.size
            omega) ⟨q2, fun cs hc => hzx cs (List.mem_of_mem_take hc)⟩ (Nat.le_succ _) (fun e => absurd e (Nat.ne_of_lt (Nat.lt_succ_self _))) (fun j x hj => b7 j x (by
              have hj : ((xs.take n.toNat).flatten.map D0.e)[j]? = some x := hj
              show (xs.flatten.map D0.e)[j]? = some x
              rw [← hcl, List.getElem?_append_left (List.getElem?_eq_some_iff.1 hj).1]
              exact hj))
          have hbd := hbd xs.length cap (by omega)
          have hlen : (xs.take n.toNat).length = n.toNat := by rw [List.length_take]; omega
          refine ⟨.slice (some ⟨g, 0, none⟩) n.toNat cap, w, p.μ, .inl ?_, hw.1, hw.2, rfl, _, upd_same _ _ _, Nat.le_refl _, fun _ => ⟨ti.size, (xs.take n.toNat).length, rfl, q2, .inr ⟨g, cap, g1, by rw [hlen], by omega, g4, g5⟩⟩⟩
          simp only [execOp, ho, Sem.run_bind, Option.map_none, Option.map_some, hA, hyv]
          simp [Instr.sliceAt, Instr.slice, run_underlying hu, hbd, hsz, add_at]
    · cases h
  · cases h
theorem sliceO_goes (hT : TOk P T) (hR : RM X p w) {t : Nat} {x : Operand} {lo hi : Option Operand} {ev : Ev} {o : Oper} {ρ : Operand → Value} (ho : o.op = .slice t x lo hi none) (hx : RepD p (CW X p w) w (ev x) (ρ x)) (hlo : ∀ y, lo = some y → RepD p (CW X p w) w (ev y) (ρ y)) (hhi : ∀ y, hi = some y → RepD p (CW X p w) w (ev y) (ρ y)) {ef : Ef}
    (h : effSliceO T p.mem t (ev x) (lo.map ev) (hi.map ev) = some ef) (hφ : ef.φ) : Goes P X p w o ρ ef := by
  have fin : ∀ {p' : Rho} {y : D} {φ : Prop} {d : D}, Kept p (CW X p w) w p' (CW X p' w) w → RepD p' (CW X p' w) w y (ρ x) → effSlice T t y (lo.map ev) (hi.map ev) = some (φ, d) → φ → ∃ v, (execOp ρ o).run P w = .ok (.value v) w ∧ RepD p' (CW X p' w) w d v := by
    intro p' y φ d hk hy hs hφ
    obtain ⟨v, h1, h2⟩ := slice_goes (P := P) (vlo := lo.map ρ) (vhi := hi.map ρ) hT hy (fun y hy => by
        obtain ⟨z, rfl, rfl⟩ := Option.map_eq_some_iff.1 hy
        exact ⟨_, rfl, (hlo z rfl).kept hk⟩) (fun hn => by simp at hn; simp [hn]) (fun y hy => by
        obtain ⟨z, rfl, rfl⟩ := Option.map_eq_some_iff.1 hy
        exact ⟨_, rfl, (hhi z rfl).kept hk⟩) (fun hn => by simp at hn; simp [hn]) hs hφ
    exact ⟨v, by simp only [execOp, ho, Sem.run_bind, Option.map_none, h1]; rfl, h2⟩
  unfold effSliceO at h
  split at h
  · rename_i i ver he
    rw [he] at hx
    split at h
    · rename_i ef' hf
      cases h
      exact trunc_goes hT hR ho hx hhi hf hφ
    · split at h
      · rename_i e us hf
        rw [Option.map_eq_some_iff] at h
        obtain ⟨⟨φ, d⟩, h1, rfl⟩ := h
        obtain ⟨m, μ⟩ := p
        obtain ⟨r1, r2, r3, r4⟩ := RM.pubs us m hR (frz_ok hf)
        obtain ⟨v, k1, k2⟩ := fin (y := .one (.e e)) r2 (frz_rep r1 (Rep0.kept r2 hx) hf r3) h1 hφ
        exact ⟨v, w, μ, .inl k1, r1, r2, k2⟩
      · cases h
  · rename_i he
    rw [he] at hx
    rw [Option.map_eq_some_iff] at h
    obtain ⟨⟨φ, d⟩, h1, rfl⟩ := h
    obtain ⟨m, μ⟩ := p
    have hnil : RepE (CW X ⟨m, μ⟩ w) (.sl []) (ρ x) := by
      rw [show ρ x = .slice none 0 0 from hx]
      exact RepE.sl none 0 0 0 0 0 (fun _ _ => undef) [] rfl (Nat.le_refl _) (Nat.zero_le _) (fun h => absurd h (by omega)) (fun cs hc => nomatch hc) (fun i cs j e hi => nomatch hi) (fun i cs j e hi => nomatch hi)
    obtain ⟨v, k1, k2⟩ := fin (p' := ⟨m, μ⟩) (y := .one (.e (.sl []))) Kept.rfl' hnil h1 hφ
    exact ⟨v, w, μ, .inl k1, hR, Kept.rfl', k2⟩
  · rename_i id ver off he
    rw [he] at hx
    split at h
    · rename_i a b len e z ht
      have hu := arr_of hT ht
      split at h
      · rename_i ti l h' bv c pub hti hl hh hb
        have hsz := (hT _ _ hti).size w
        cases hv : Nat.beq bv ver with
        | false => simp [hv] at h
        | true =>
          obtain rfl := Nat.eq_of_beq_eq_true hv
          simp only [hv, cond_true, Option.some.injEq] at h
          subst h
          obtain ⟨f0, f1, f2, f3, f4, f5, f6⟩ := hφ
          obtain ⟨h0, blk, h1, h2, h3⟩ := hx
          rw [hb] at h1
          cases h1
          obtain ⟨g, hg, hvx⟩ := h3 rfl
          have hbd := bounds_goes (P := P) (w := w) (C := CW X p w) (p := p) (vlo := lo.map ρ) (vhi := hi.map ρ) (fun y hy => by
            obtain ⟨z, rfl, rfl⟩ := Option.map_eq_some_iff.1 hy
            exact ⟨_, rfl, hlo z rfl⟩) (fun hn => by simp at hn; simp [hn]) (fun y hy => by
            obtain ⟨z, rfl, rfl⟩ := Option.map_eq_some_iff.1 hy
            exact ⟨_, rfl, hhi z rfl⟩) (fun hn => by simp at hn; simp [hn]) hl hh f0 f2 f3 false
          have hne : len ≠ l.toNat := by omega
          refine ⟨.slice (some ⟨g, off + l.toNat * ti.size, none⟩) (h'.toNat - l.toNat) (len - l.toNat), w, p.μ, .inl ?_, hR, Kept.rfl', rfl, _, hb, Nat.le_refl _, fun _ => ⟨f6, ?_, g, len - l.toNat, hg, ?_, ?_, ?_⟩⟩
          · simp only [execOp, ho, Sem.run_bind, Option.map_none, hvx]
            simp [Instr.sliceAt, run_underlying hu, Instr.sureAddr, hbd, hsz, hne, add_at]
          · have e1 : (h' - l).toNat ≤ len - l.toNat := by omega
            have e2 : (h' - l).toNat * ti.size ≤ (len - l.toNat) * ti.size := Nat.mul_le_mul_right _ e1
            have e3 : (len - l.toNat) * ti.size + l.toNat * ti.size = len * ti.size := by rw [← Nat.add_mul]; congr 1; omega
            simp only [Body.shape]
            rw [Cs.len_eq]
            omega
          · rw [show (h' - l).toNat = h'.toNat - l.toNat by omega]
          · omega
          · simp only [maxLen]
            omega
      · cases h
    · cases h
  · cases h

theorem rep2_repl {C : Nat → Nat → Value → Prop} {es : List E} {zs : List Value} (h : Rep2 p C w (es.map .e) zs) : ∀ n, Rep2 p C w ((List.replicate n es).flatten.map .e) (List.replicate n zs).flatten
  | 0 => ⟨rfl, (fun i x u h => nomatch h)⟩
  | n + 1 => by
    simp only [List.replicate_succ, List.flatten_cons, List.map_append]
    exact rep2_append h (rep2_repl h n)
theorem repl_get {z : Nat} {zs : List Value} (hl : zs.length = z) (h0 : 0 < z) : ∀ (n i : Nat) u, (List.replicate n zs).flatten[i]? = some u → i < n * z ∧ zs[i % z]? = some u
  | 0, i, u, h => by simp at h
  | n + 1, i, u, h => by
    simp only [List.replicate_succ, List.flatten_cons] at h
    by_cases hi : i < zs.length
    · rw [List.getElem?_append_left hi] at h
      rw [Nat.succ_mul, Nat.mod_eq_of_lt (by omega)]
      exact ⟨by omega, h⟩
    · rw [List.getElem?_append_right (by omega)] at h
      obtain ⟨h1, h2⟩ := repl_get hl h0 n _ u h
      rw [Nat.succ_mul]
      refine ⟨by omega, ?_⟩
      rw [hl] at h2 hi
      rw [Nat.mod_eq_sub_mod (by omega)]
      exact h2

theorem setEl_flat {z : Nat} (xs : List (List E)) (hz : ∀ cs ∈ xs, cs.length = z) {i j n : Nat} {ys : List E} (hi : i < xs.length) (hj : j + n ≤ z) (hy : ys.length = n) :
    (setEl xs i j n ys).flatten = xs.flatten.take (i * z + j) ++ ys ++ xs.flatten.drop (i * z + j + n) ∧ (∀ cs ∈ setEl xs i j n ys, cs.length = z) ∧ (setEl xs i j n ys).length = xs.length := by
  have hx : xs.getD i [] = xs[i] := by simp [List.getD_eq_getElem?_getD, hi]
  have hlen := hz _ (List.getElem_mem hi)
  have hsp : xs = xs.take i ++ xs[i] :: xs.drop (i + 1) := by rw [List.getElem_cons_drop, List.take_append_drop]
  have hl1 : (xs.take i).flatten.length = i * z := by
    rw [flatten_len _ (fun cs hc => hz cs (List.mem_of_mem_take hc)), List.length_take, Nat.min_eq_left (Nat.le_of_lt hi)]
  have hf : xs.flatten = (xs.take i).flatten ++ (xs[i] ++ (xs.drop (i + 1)).flatten) := by
    have := congrArg List.flatten hsp
    rw [List.flatten_append, List.flatten_cons] at this
    exact this
  refine ⟨?_, fun cs hc => ?_, by simp [setEl]⟩
  · unfold setEl
    rw [hx, List.set_eq_take_append_cons_drop, if_pos hi, List.flatten_append, List.flatten_cons, hf]
    generalize (xs.take i).flatten = A at hl1
    generalize xs[i] = B at hlen
    generalize (xs.drop (i + 1)).flatten = C
    have e1 : (A ++ (B ++ C)).take (i * z + j) = A ++ B.take j := by
      rw [List.take_append, hl1, List.take_of_length_le (by omega), show i * z + j - i * z = j by omega, List.take_append, hlen, show j - z = 0 by omega]
      simp
    have e2 : (A ++ (B ++ C)).drop (i * z + j + n) = B.drop (j + n) ++ C := by
      rw [List.drop_append, hl1, List.drop_of_length_le (by omega), show i * z + j + n - i * z = j + n by omega, List.drop_append, hlen, show j + n - z = 0 by omega]
      simp
    rw [e1, e2]
    simp [List.append_assoc]
  · unfold setEl at hc
    rcases List.mem_or_eq_of_mem_set hc with hc | rfl
    · exact hz cs hc
    · rw [hx]
      simp only [List.length_append, List.length_take, List.length_drop, hlen, hy]
      omega

theorem box_write (hR : RM X p w) {id bv pub g off k : Nat} {b c : Cs} {us : List Value} (hb : p.mem id = some ⟨bv, .box b, pub⟩) (hg : p.μ id = some g) (hcs : Rep2 p (CW X p w) w c.d0 us) (f1 : c.len = k) (f2 : off + k ≤ b.len) (f3 : pub ≤ off)
    {cur : Array Value} {et : TypeId} {lo hi : Nat} (b4 : w.heap[g]? = some (.cells cur et (lo, hi))) (b6 : b.len ≤ cur.size) (b3 : pub ≤ b.len) :
    RM X ⟨upd p.mem id (some ⟨bv, .box (b.put off k c), pub⟩), p.μ⟩ (w.setRow g (cur.toList.take off ++ us ++ cur.toList.drop (off + k)).toArray) ∧
      Kept p (CW X p w) w ⟨upd p.mem id (some ⟨bv, .box (b.put off k c), pub⟩), p.μ⟩ (CW X ⟨upd p.mem id (some ⟨bv, .box (b.put off k c), pub⟩), p.μ⟩ (w.setRow g (cur.toList.take off ++ us ++ cur.toList.drop (off + k)).toArray)) (w.setRow g (cur.toList.take off ++ us ++ cur.toList.drop (off + k)).toArray) := by
  have hsz : us.length = k := by
    have := hcs.1
    rw [Cs.len_eq, f1] at this
    exact this.symm
  have htl : (cur.toList.take off).length = off := by simp; omega
  have hcz : (cur.toList.take off ++ us ++ cur.toList.drop (off + k)).toArray.size = cur.size := by
    simp only [List.size_toArray, List.length_append, List.length_take, List.length_drop, Array.length_toList, hsz]
    omega
  have hlen : (b.put off k c).d0.length = b.len := by
    rw [Cs.put_d0]
    simp only [List.length_append, List.length_take, List.length_drop, Cs.len_eq, f1]
    omega
  have hm := mem_of hR hb hg
  obtain ⟨olds, o1, o2⟩ := hm.list
  have holdl : olds.length = b.len := by rw [← o1.1]; exact Cs.len_eq b
  have hput : Rep2 p (CW X p w) w (b.put off k c).d0 (olds.take off ++ us ++ olds.drop (off + k)) := by
    rw [Cs.put_d0]
    exact rep2_append (rep2_append (rep2_take o1 _) hcs) (rep2_drop o1 _)
  have hcur : ∀ (i : Nat) u, olds[i]? = some u → cur[i]? = some u := fun i u hu => by
    have := o2 i u hu
    rw [Nat.zero_add, cell_row b4] at this
    exact this
  exact hR.write (blk' := ⟨bv, .box (b.put off k c), pub⟩) (w.setRow g (cur.toList.take off ++ us ++ cur.toList.drop (off + k)).toArray) hb hg b4 (setRow_heap w g cur _ et _ b4) (fun k hk => setRow_other w g k _ hk) (by simp [World.setRow]) rfl rfl rfl hcz (fun q hq => by
    have hq : q < off := Nat.lt_of_lt_of_le hq f3
    simp only [List.getElem?_toArray]
    rw [List.append_assoc, List.getElem?_append_left (by rw [htl]; exact hq), List.getElem?_take_of_lt hq]
    simp) (Nat.le_refl _) (by show pub ≤ (b.put off k c).d0.length; rw [hlen]; exact b3) (by show (b.put off k c).d0.length ≤ _; rw [hlen]; exact b6) trivial (Nat.le_refl _) (fun _ => by
      show (0, (b.put off k c).d0.length) = (0, b.d0.length)
      rw [hlen, Cs.len_eq]) (fun q y hy => by
      have hql : q < (olds.take off ++ us ++ olds.drop (off + k)).length := by rw [← hput.1]; exact (List.getElem?_eq_some_iff.1 hy).1
      have hu := List.getElem?_eq_getElem hql
      refine ⟨_, ?_, hput.2 q y _ hy hu⟩
      simp only [List.getElem?_toArray]
      generalize (olds.take off ++ us ++ olds.drop (off + k))[q] = u at hu
      rw [List.append_assoc] at hu ⊢
      by_cases hq : q < off
      · rw [List.getElem?_append_left (by simp; omega), List.getElem?_take_of_lt hq] at hu
        rw [List.getElem?_append_left (by rw [htl]; exact hq), List.getElem?_take_of_lt hq]
        have := hcur q u hu
        simpa using this
      · rw [List.getElem?_append_right (by simp; omega)] at hu
        rw [List.getElem?_append_right (by rw [htl]; omega), htl]
        have hto : (olds.take off).length = off := by simp; omega
        rw [hto] at hu
        by_cases hq2 : q - off < us.length
        · rw [List.getElem?_append_left hq2] at hu ⊢
          exact hu
        · rw [List.getElem?_append_right (by omega)] at hu ⊢
          rw [List.getElem?_drop] at hu ⊢
          have := hcur _ u hu
          simpa using this)
theorem copy_goes (hT : TOk P T) (hR : RM X p w) {t tx : Nat} {x y : Operand} {dx dy : D} {o : Oper} {ρ : Operand → Value} (ho : o.op = .call ⟨.builtin .copy, #[x, y], #[t, tx]⟩) (hx : RepD p (CW X p w) w dx (ρ x)) (hy : RepD p (CW X p w) w dy (ρ y)) {ef : Ef}
    (h : effCopy T p.mem t tx dx dy = some ef) (hφ : ef.φ) : Goes P X p w o ρ ef := by
  unfold effCopy at h
  split at h
  · rename_i a b' e z' tix id ver off z n ht htx
    have hu := slice_of hT ht
    split at h
    · rename_i ti bv b pub φ ys hti hb hs
      cases hv : (Nat.beq bv ver && Nat.beq ti.size z) with
      | false => simp [hv] at h
      | true =>
        simp only [hv, cond_true, Option.some.injEq] at h
        subst h
        simp only [Bool.and_eq_true] at hv
        obtain rfl := Nat.eq_of_beq_eq_true hv.1
        obtain rfl := Nat.eq_of_beq_eq_true hv.2
        obtain ⟨f1, f2⟩ := hφ
        obtain ⟨s1, s2, news, s3, s4⟩ := src_first hT hR htx hy hs f1
        have hsz := (hT _ _ hti).size w
        obtain ⟨_, blk, h1, h2, h3⟩ := hx
        rw [hb] at h1
        cases h1
        obtain ⟨z0, z1, g, cap, hg, hvx, g3, g4⟩ := h3 rfl
        simp only [Body.shape] at z1
        rw [Cs.len_eq] at z1
        have hbo := hR.blk id _ hb
        simp only [BlkOk, hg] at hbo
        obtain ⟨_, b1, b2, b3, cur, et, lo, hi, b4, b5, b6, b7⟩ := hbo
        simp only [Blk.cells, Body.cells, Cs.len_eq] at b3 b6 b7
        have hk1 : min n ys.length ≤ ys.length := Nat.min_le_right _ _
        have hk2 : min n ys.length ≤ n := Nat.min_le_left _ _
        have hmk : Nat.min ys.length n = min n ys.length := Nat.min_comm _ _
        generalize min n ys.length = k at hk1 hk2 hmk ⊢
        have hkz : k * ti.size ≤ n * ti.size := Nat.mul_le_mul_right _ hk2
        have hnl : news.length = ys.length * ti.size := by rw [← s3.1, List.length_map, flatten_len ys s2]
        have hkn : k * ti.size ≤ news.length := by rw [hnl]; exact Nat.mul_le_mul_right _ hk1
        have hfl : (ys.take k).flatten = ys.flatten.take (k * ti.size) := by
          have e1 : ys.flatten = (ys.take k).flatten ++ (ys.drop k).flatten := by rw [← List.flatten_append, List.take_append_drop]
          have e2 : (ys.take k).flatten.length = k * ti.size := by rw [flatten_len _ (fun cs hc => s2 cs (List.mem_of_mem_take hc)), List.length_take, Nat.min_eq_left hk1]
          rw [e1, List.take_left' e2]
        have hrep : Rep2 p (CW X p w) w (Cs.es (ys.take k).flatten).d0 (news.take (k * ti.size)) := by
          have := rep2_take s3 (k * ti.size)
          rw [← List.map_take, ← hfl] at this
          exact this
        have hlen : (Cs.es (ys.take k).flatten).len = k * ti.size := by
          rw [← Cs.len_eq, hrep.1, List.length_take]
          omega
        have hst := run_store_own (P := P) (g := g) (o := off) (lo := lo) (hi := hi) (t := et) (news.take (k * ti.size)) 0 cur w b4 b5 (by rw [List.length_take]; omega) (rep2_one hrep)
        have hln : (news.take (k * ti.size)).length = k * ti.size := by rw [List.length_take]; omega
        rw [Nat.add_zero, hln] at hst
        have hw := box_write hR hb hg hrep hlen (by omega) f2 b4 b6 b3
        refine ⟨.int .i64 (k : Int), _, p.μ, .inl ?_, hw.1, hw.2, repV_mk rfl⟩
        simp [execOp, ho, resolve, invoke, builtin, Builtin.copy_, run_underlying hu, hvx, s1, hsz, hmk, s4 k hk1, hst, goInt]
    · cases h
  · cases h
theorem store_goes (hT : TOk P T) (hR : RM X p w) {t : Nat} {ti : TI} (hti : T t = some ti) {a x : Operand} {da dx : D} {o : Oper} {ρ : Operand → Value} (ho : o.op = .store t a x) (ha : RepD p (CW X p w) w da (ρ a)) (hx : RepD p (CW X p w) w dx (ρ x)) {ef : Ef}
    (h : effStore ti p.mem da dx = some ef) (hφ : ef.φ) : Goes P X p w o ρ ef := by
  have htik := hT _ _ hti
  -- the store itself
  have hstore : ∀ {g off : Nat} {cur : Array Value} {et : TypeId} {lo hi : Nat}, w.heap[g]? = some (.cells cur et (lo, hi)) → (lo < hi → cur.size ≤ lo) → ρ a = .pointer (some ⟨g, off, none⟩) → (ρ x).cells.size = ti.size → off + ti.size ≤ cur.size → (∀ u ∈ (ρ x).cells.toList, u.oneCell' = true) →
      (execOp ρ o).run P w = .ok .skip (w.setRow g (cur.toList.take off ++ (ρ x).cells.toList ++ cur.toList.drop (off + ti.size)).toArray) := by
    intro g off cur et lo hi h1 h2 h3 h4 h5 h6
    have hst := run_store_own (P := P) (g := g) (o := off) (lo := lo) (hi := hi) (t := et) (ρ x).cells.toList 0 cur w h1 h2 (by simpa [h4] using h5) h6
    simp only [Nat.add_zero, Array.length_toList, h4] at hst
    simp only [execOp, ho, Sem.run_bind, Instr.storeAt, h3, Instr.sureAddr, Sem.run_pure, Result.andThen_ok, storeVar, htik.size]
    rw [if_neg (by rw [h4]; simp), hst]
    rfl
  unfold effStore at h
  split at h
  · cases h
  · rename_i c hc
    have hcs := rep_cs hx hc
    split at h
    · rename_i id ver off
      split at h
      · rename_i bv b pub hb
        cases hv : Nat.beq bv ver with
        | false => simp [hv] at h
        | true =>
          obtain rfl := Nat.eq_of_beq_eq_true hv
          simp only [hv, cond_true, Option.some.injEq] at h
          subst h
          obtain ⟨f1, f2, f3⟩ := hφ
          obtain ⟨_, blk, h1, h2, h3⟩ := ha
          rw [hb] at h1
          cases h1
          obtain ⟨g, hg, hρa⟩ := h3 rfl
          have hbo := hR.blk id _ hb
          simp only [BlkOk, hg] at hbo
          obtain ⟨_, b1, b2, b3, cur, et, lo, hi, b4, b5, b6, b7⟩ := hbo
          simp only [Blk.cells, Body.cells, Cs.len_eq] at b3 b6 b7
          have hsz : (ρ x).cells.size = ti.size := by
            have := hcs.1
            rw [Cs.len_eq, f1] at this
            simpa using this.symm
          have hrun := hstore b4 b5 hρa hsz (by omega) (rep2_one hcs)
          have htl : (cur.toList.take off).length = off := by simp; omega
          have hcz : (cur.toList.take off ++ (ρ x).cells.toList ++ cur.toList.drop (off + ti.size)).toArray.size = cur.size := by
            simp only [List.size_toArray, List.length_append, List.length_take, List.length_drop, Array.length_toList, hsz]
            omega
          have hlen : (b.put off ti.size c).d0.length = b.len := by
            rw [Cs.put_d0]
            simp only [List.length_append, List.length_take, List.length_drop, Cs.len_eq, f1]
            omega
          have hm := mem_of hR hb hg
          obtain ⟨olds, o1, o2⟩ := hm.list
          have holdl : olds.length = b.len := by rw [← o1.1]; exact Cs.len_eq b
          have hput : Rep2 p (CW X p w) w (b.put off ti.size c).d0 (olds.take off ++ (ρ x).cells.toList ++ olds.drop (off + ti.size)) := by
            rw [Cs.put_d0]
            exact rep2_append (rep2_append (rep2_take o1 _) hcs) (rep2_drop o1 _)
          have hcur : ∀ (i : Nat) u, olds[i]? = some u → cur[i]? = some u := fun i u hu => by
            have := o2 i u hu
            rw [Nat.zero_add, cell_row b4] at this
            exact this
          have hw := hR.write (blk' := ⟨bv, .box (b.put off ti.size c), pub⟩) (w.setRow g (cur.toList.take off ++ (ρ x).cells.toList ++ cur.toList.drop (off + ti.size)).toArray) hb hg b4 (setRow_heap w g cur _ et _ b4) (fun k hk => setRow_other w g k _ hk) (by simp [World.setRow]) rfl rfl rfl hcz (fun q hq => by
            have hq : q < off := Nat.lt_of_lt_of_le hq f3
            simp only [List.getElem?_toArray]
            rw [List.append_assoc, List.getElem?_append_left (by rw [htl]; exact hq), List.getElem?_take_of_lt hq]
            simp) (Nat.le_refl _) (by show pub ≤ (b.put off ti.size c).d0.length; rw [hlen]; exact b3) (by show (b.put off ti.size c).d0.length ≤ _; rw [hlen]; exact b6) trivial (Nat.le_refl _) (fun _ => by
              show (0, (b.put off ti.size c).d0.length) = (0, b.d0.length)
              rw [hlen, Cs.len_eq]) (fun q y hy => by
              have hql : q < (olds.take off ++ (ρ x).cells.toList ++ olds.drop (off + ti.size)).length := by rw [← hput.1]; exact (List.getElem?_eq_some_iff.1 hy).1
              have hu := List.getElem?_eq_getElem hql
              refine ⟨_, ?_, hput.2 q y _ hy hu⟩
              simp only [List.getElem?_toArray]
              generalize (olds.take off ++ (ρ x).cells.toList ++ olds.drop (off + ti.size))[q] = u at hu
              rw [List.append_assoc] at hu ⊢
              by_cases hq : q < off
              · rw [List.getElem?_append_left (by simp; omega), List.getElem?_take_of_lt hq] at hu
                rw [List.getElem?_append_left (by rw [htl]; exact hq), List.getElem?_take_of_lt hq]
                have := hcur q u hu
                simpa using this
              · rw [List.getElem?_append_right (by simp; omega)] at hu
                rw [List.getElem?_append_right (by rw [htl]; omega), htl]
                have hto : (olds.take off).length = off := by simp; omega
                rw [hto] at hu
                by_cases hq2 : q - off < (ρ x).cells.toList.length
                · rw [List.getElem?_append_left hq2] at hu ⊢
                  exact hu
                · rw [List.getElem?_append_right (by omega)] at hu ⊢
                  rw [List.getElem?_drop] at hu ⊢
                  have := hcur _ u hu
                  simpa using this)
          exact ⟨undef, _, p.μ, .inr ⟨hrun, rfl⟩, hw.1, hw.2, trivial⟩
      · cases h
    · rename_i id ver i j
      split at h
      · rename_i bv z xs pub es us hb hf
        cases hv : (Nat.beq bv ver && us.all (fun u => !Nat.beq u.1 id)) with
        | false => simp [hv] at h
        | true =>
          simp only [hv, cond_true, Option.some.injEq] at h
          simp only [Bool.and_eq_true] at hv
          obtain rfl := Nat.eq_of_beq_eq_true hv.1
          subst h
          obtain ⟨f1, f2, f3, f4⟩ := hφ
          obtain ⟨m, μ⟩ := p
          obtain ⟨r1, r2, r3, r4⟩ := RM.pubs us m hR (frzC_ok hf)
          have hb' : appU m us id = some ⟨bv, .row z xs, pub⟩ := by rw [r4 id (all_ne hv.2)]; exact hb
          obtain ⟨hz0, hzx⟩ := row_ok hR hb
          obtain ⟨_, blk, h1, h2, h3⟩ := ha
          rw [hb] at h1
          cases h1
          obtain ⟨g, hg, hρa⟩ := h3 rfl
          simp only [Body.shape] at hρa
          have hcs' := frzC_rep r1 (hcs.kept r2) hf r3
          have hg : μ id = some g := hg
          have hbo := r1.blk id _ hb'
          simp only [BlkOk, hg] at hbo
          obtain ⟨_, b1, b2, b3, cur, et, lo, hi, b4, b5, b6, b7⟩ := hbo
          simp only [Blk.cells, Body.cells, List.length_map, flatten_len xs hzx] at b3 b6
          have hsz : (ρ x).cells.size = ti.size := by
            have := hcs'.1
            rw [List.length_map, f1] at this
            simpa using this.symm
          have hil : (i + 1) * z ≤ xs.length * z := Nat.mul_le_mul_right _ f3
          rw [Nat.succ_mul] at hil
          have hrun := hstore b4 b5 hρa hsz (by omega) (rep2_one hcs)
          obtain ⟨s1, s2, s3⟩ := setEl_flat xs hzx (j := j) (n := ti.size) (ys := es) f3 f2 f1
          obtain ⟨off, hoff⟩ : ∃ off, off = i * z + j := ⟨_, rfl⟩
          rw [← hoff] at hrun s1 f4
          have hofl : off + ti.size ≤ xs.length * z := by omega
          have htl : (cur.toList.take off).length = off := by simp; omega
          have hcz : (cur.toList.take off ++ (ρ x).cells.toList ++ cur.toList.drop (off + ti.size)).toArray.size = cur.size := by
            simp only [List.size_toArray, List.length_append, List.length_take, List.length_drop, Array.length_toList, hsz]
            omega
          have hm := mem_of r1 hb' hg
          obtain ⟨olds, o1, o2⟩ := hm.list
          have holdl : olds.length = xs.length * z := by
            rw [← o1.1]
            show (xs.flatten.map D0.e).length = _
            rw [List.length_map, flatten_len xs hzx]
          have hput : Rep2 ⟨appU m us, μ⟩ (CW X ⟨appU m us, μ⟩ w) w ((setEl xs i j ti.size es).flatten.map .e) (olds.take off ++ (ρ x).cells.toList ++ olds.drop (off + ti.size)) := by
            rw [s1, List.map_append, List.map_append, List.map_take, List.map_drop]
            exact rep2_append (rep2_append (rep2_take o1 _) hcs') (rep2_drop o1 _)
          have hcur : ∀ (i : Nat) u, olds[i]? = some u → cur[i]? = some u := fun i u hu => by
            have := o2 i u hu
            rw [Nat.zero_add, cell_row b4] at this
            exact this
          have hw := r1.write (blk' := ⟨bv, .row z (setEl xs i j ti.size es), pub⟩) (w.setRow g (cur.toList.take off ++ (ρ x).cells.toList ++ cur.toList.drop (off + ti.size)).toArray) hb' hg b4 (setRow_heap w g cur _ et _ b4) (fun k hk => setRow_other w g k _ hk) (by simp [World.setRow]) rfl rfl rfl hcz (fun q hq => by
            have hq : q < off := Nat.lt_of_lt_of_le hq f4
            simp only [List.getElem?_toArray]
            rw [List.append_assoc, List.getElem?_append_left (by rw [htl]; exact hq), List.getElem?_take_of_lt hq]
            simp) (Nat.le_refl _) (by
              show pub ≤ ((setEl xs i j ti.size es).flatten.map D0.e).length
              rw [List.length_map, flatten_len _ s2, s3]; exact b3) (by
              show ((setEl xs i j ti.size es).flatten.map D0.e).length ≤ _
              rw [List.length_map, flatten_len _ s2, s3]; exact b6) ⟨hz0, s2⟩ (Nat.le_refl _) (fun _ => by
              show (z, (setEl xs i j ti.size es).length) = (z, xs.length)
              rw [s3]) (fun q y hy => by
              have hql : q < (olds.take off ++ (ρ x).cells.toList ++ olds.drop (off + ti.size)).length := by rw [← hput.1]; exact (List.getElem?_eq_some_iff.1 hy).1
              have hu := List.getElem?_eq_getElem hql
              refine ⟨_, ?_, hput.2 q y _ hy hu⟩
              simp only [List.getElem?_toArray]
              generalize (olds.take off ++ (ρ x).cells.toList ++ olds.drop (off + ti.size))[q] = u at hu
              rw [List.append_assoc] at hu ⊢
              by_cases hq : q < off
              · rw [List.getElem?_append_left (by simp; omega), List.getElem?_take_of_lt hq] at hu
                rw [List.getElem?_append_left (by rw [htl]; exact hq), List.getElem?_take_of_lt hq]
                have := hcur q u hu
                simpa using this
              · rw [List.getElem?_append_right (by simp; omega)] at hu
                rw [List.getElem?_append_right (by rw [htl]; omega), htl]
                have hto : (olds.take off).length = off := by simp; omega
                rw [hto] at hu
                by_cases hq2 : q - off < (ρ x).cells.toList.length
                · rw [List.getElem?_append_left hq2] at hu ⊢
                  exact hu
                · rw [List.getElem?_append_right (by omega)] at hu ⊢
                  rw [List.getElem?_drop] at hu ⊢
                  have := hcur _ u hu
                  simpa using this)
          refine ⟨undef, _, μ, .inr ⟨hrun, rfl⟩, ?_⟩
          simp only [appU_append]
          exact ⟨hw.1, r2.trans hw.2, trivial⟩
      · cases h
    · cases h
theorem make_goes (hT : TOk P T) (hR : RM X p w) {t id : Nat} {l c : Operand} {dl dc : D} {o : Oper} {ρ : Operand → Value} (ho : o.op = .makeSlice t l c) (hl : RepD p (CW X p w) w dl (ρ l)) (hc : RepD p (CW X p w) w dc (ρ c)) {ef : Ef}
    (h : effMake T p.mem id t dl dc = some ef) (hφ : ef.φ) : Goes P X p w o ρ ef := by
  unfold effMake at h
  split at h
  · rename_i a b e z k1 n k2 k ht
    have hu := slice_of hT ht
    have hρl := repV hl
    have hρc := repV hc
    split at h
    · rename_i ti hti
      have htik := hT _ _ hti
      split at h
      · rename_i es hf
        cases hz : Nat.beq ti.size 0 with
        | true => simp [hz] at h
        | false =>
          have hz0 : 0 < ti.size := Nat.pos_of_ne_zero fun e => by rw [e] at hz; cases hz
          simp only [hz, cond_false, Option.some.injEq] at h
          subst h
          obtain ⟨f1, f2, f3, f4, f5⟩ := hφ
          obtain ⟨i0, d0, zv, i1, i2, i3, i4, i5, i6, hz2, i8⟩ := htik.out
          have hzr := zeroCs_rep (p := p) (C := CW X p w) (w := w) (zero_one htik)
          obtain ⟨m, μ⟩ := p
          have hes := frzC_rep hR hzr hf (fun u hu => nomatch hu)
          have hzs : zv.cells.size = ti.size := by rw [← Array.length_toList, hz2, htik.len]
          obtain ⟨kn, rfl⟩ := Int.eq_ofNat_of_zero_le (show 0 ≤ k by omega)
          obtain ⟨nn, rfl⟩ := Int.eq_ofNat_of_zero_le f1
          obtain ⟨ob, hob⟩ : ∃ ob : Array Value, ob = madeCells zv.cells (kn * ti.size) := ⟨_, rfl⟩
          have hkb : (i0.bytes : Int) * kn ≤ 281474976710656 := by rw [i4, Int.mul_comm]; omega
          have hrun : (execOp ρ o).run P w = .ok (.value (.slice (some ⟨w.heap.size, 0, none⟩) nn kn)) (w.alloc (.cells ob e)) := by
            have hb := run_make (P := P) w t e i0 zv hu i1 i6 k1 k2 nn kn f1 f2 hkb (by omega)
            rw [Int.toNat_natCast, Int.toNat_natCast, i3, ← hob] at hb
            simp only [execOp, ho, Sem.run_bind, hρl, hρc, hb, Result.andThen_ok]
            rfl
          have hzl : ti.zero.length = ti.size := htik.len
          have hobs : ob.size = kn * ti.size := by rw [hob, size_madeCells]
          have hrep := rep2_repl hes nn
          have hpre : ∀ (i : Nat) u, (List.replicate nn ti.zero).flatten[i]? = some u → ob[i]? = some u := fun i u hu => by
            obtain ⟨q1, q2⟩ := repl_get hzl hz0 nn i u hu
            have hle : nn * ti.size ≤ kn * ti.size := Nat.mul_le_mul_right _ (by omega)
            have hil : i % ti.size < zv.cells.size := by rw [hzs]; exact Nat.mod_lt _ hz0
            rw [hob, madeCells, Array.getElem?_map, Array.getElem?_range, if_pos (by omega)]
            simp only [Option.map_some, hzs]
            rw [getElem!_pos zv.cells (i % ti.size) hil]
            rw [← hz2] at q2
            rw [Array.getElem?_toList, Array.getElem?_eq_getElem hil] at q2
            exact q2
          have ra := row_alloc (X := X) (p := ⟨m, μ⟩) hR (ob := ob) (t := e) (lo := 0) (hi := 0) (id := id) (ver := nver m id) (z := ti.size) (cap := kn) (xs := List.replicate nn es) (pub := 0) (w.alloc (.cells ob e)) rfl rfl rfl rfl (by omega) hz0 (fun cs hc => by rw [List.eq_of_mem_replicate hc]; exact f5) nver_lt (Nat.zero_le _) (by rw [List.length_replicate]; omega) (by simp only [maxLen]; omega) (by rw [hobs]; exact Nat.le_refl _) hrep hpre
          rw [List.length_replicate] at ra
          exact ⟨_, _, _, .inl hrun, ra.1, ra.2.1, ra.2.2⟩
      · cases h
    · cases h
  · cases h
end
end Go.Proofs.YtcjeeoimjkhijaaDoor.Ab
