/- Operations that make memory go as 'effM' says: first part. No condition. -/
import Derived.Test.YtcjeeoimjkhijaaDoorAb8
namespace Go.Proofs.YtcjeeoimjkhijaaDoor.Ab
open Go Go.RowKit

section
variable {P : Program} {T : Nat → Option TI} {X : Ctx} {p : Rho} {w : World} {C : Nat → Nat → Value → Prop}

theorem cells_one {v : Value} (h : v.oneCell' = true) : v.cells = #[v] := by cases v <;> first | rfl | cases h

theorem rep_cs {d : D} {c : Cs} {v : Value} (h : RepD p C w d v) (hc : d.cs? = some c) : Rep2 p C w c.d0 v.cells.toList := by
  unfold D.cs? at hc
  split at hc
  · rename_i x
    cases hc
    have h1 : Rep0 p C w (.e x) v := h
    rw [cells_one h1.one]
    refine ⟨rfl, fun i y u hy hu => ?_⟩
    cases i with
    | zero => simp [Cs.d0] at hy hu; subst hy; subst hu; exact h1
    | succ i => simp [Cs.d0] at hy
  · rename_i x _
    cases hc
    have h1 : Rep0 p C w x v := h
    rw [cells_one h1.one]
    refine ⟨rfl, fun i y u hy hu => ?_⟩
    cases i with
    | zero => simp [Cs.d0] at hy hu; subst hy; subst hu; exact h1
    | succ i => simp [Cs.d0] at hy
  · rename_i c'
    cases hc
    obtain ⟨vs, rfl, h2⟩ := h
    exact h2
  · cases hc

theorem rep2_one {xs : List D0} {vs : List Value} (h : Rep2 p C w xs vs) : ∀ u ∈ vs, u.oneCell' = true := by
  intro u hu
  obtain ⟨i, hi⟩ := List.mem_iff_getElem?.1 hu
  have : i < xs.length := by rw [h.1]; exact (List.getElem?_eq_some_iff.1 hi).1
  exact (h.2 i _ u (List.getElem?_eq_getElem this) hi).one

theorem zD_rep {v : Value} (h : v.oneCell' = true) : Rep0 p C w (zD v) v := by
  unfold zD
  split
  · rfl
  · exact RepE.v _ h
theorem zeroCs_rep {vs : List Value} (h : ∀ u ∈ vs, u.oneCell' = true) : Rep2 p C w (zeroCs vs).d0 vs := by
  unfold zeroCs
  cases vs.any isSliceV with
  | true =>
    refine ⟨by simp [Cs.d0], fun i x u h1 h2 => ?_⟩
    simp only [Cs.d0, cond_true, List.getElem?_map, Option.map_eq_some_iff] at h1
    obtain ⟨u', h3, rfl⟩ := h1
    rw [h2] at h3
    cases h3
    exact zD_rep (h _ (List.mem_of_getElem? h2))
  | false =>
    refine ⟨by simp [Cs.d0], fun i x u h1 h2 => ?_⟩
    simp only [Cs.d0, cond_false, List.map_map, List.getElem?_map, Option.map_eq_some_iff] at h1
    obtain ⟨u', h3, rfl⟩ := h1
    rw [h2] at h3
    cases h3
    exact RepE.v _ (h _ (List.mem_of_getElem? h2))

theorem rep2_append {xs ys : List D0} {us vs : List Value} (h1 : Rep2 p C w xs us) (h2 : Rep2 p C w ys vs) : Rep2 p C w (xs ++ ys) (us ++ vs) := by
  refine ⟨by simp [h1.1, h2.1], fun i x u hx hu => ?_⟩
  by_cases hi : i < xs.length
  · rw [List.getElem?_append_left hi] at hx
    rw [List.getElem?_append_left (by rw [← h1.1]; exact hi)] at hu
    exact h1.2 i x u hx hu
  · rw [List.getElem?_append_right (by omega)] at hx
    rw [List.getElem?_append_right (by rw [← h1.1]; omega), ← h1.1] at hu
    exact h2.2 _ x u hx hu
theorem rep2_take {xs : List D0} {vs : List Value} (h : Rep2 p C w xs vs) (n : Nat) : Rep2 p C w (xs.take n) (vs.take n) := by
  have := rep2_sub h 0 n
  simpa using this
theorem rep2_drop {xs : List D0} {vs : List Value} (h : Rep2 p C w xs vs) (n : Nat) : Rep2 p C w (xs.drop n) (vs.drop n) := by
  refine ⟨by simp [h.1], fun i x u h1 h2 => ?_⟩
  rw [List.getElem?_drop] at h1 h2
  exact h.2 _ _ _ h1 h2

/-! ### building structs and arrays -/
theorem fold_set (o : Nat) : ∀ (l : List Value) (k : Nat) (cs : Array Value), o + k + l.length ≤ cs.size →
    ((l.zipIdx k).foldl (fun cs (q : Value × Nat) => cs.setIfInBounds (o + q.2) q.1) cs).toList = cs.toList.take (o + k) ++ l ++ cs.toList.drop (o + k + l.length)
  | [], k, cs, _ => by simp
  | x :: l, k, cs, h => by
    simp only [List.length_cons] at h
    rw [List.zipIdx_cons, List.foldl_cons, fold_set o l (k + 1) _ (by simp; omega)]
    have hn : (cs.toList.take (o + k)).length = o + k := by simp; omega
    simp only [Array.toList_setIfInBounds, List.length_cons]
    rw [List.set_eq_take_append_cons_drop, if_pos (by simp; omega)]
    rw [show o + (k + 1) = o + k + 1 by omega, List.take_append, List.drop_append, hn]
    rw [show o + k + 1 - (o + k) = 1 by omega, show o + k + 1 + l.length - (o + k) = l.length + 1 by omega, List.take_of_length_le (by omega), List.drop_of_length_le (l := cs.toList.take (o + k)) (by omega)]
    simp [List.drop_drop]
    congr 1
    omega

theorem fill_one {place : Nat → Option (Nat × Nat)} {cells : Array Value} {i off size : Nat} {v : Value} {rest : List (Nat × Value)} (hp : place i = some (off, size)) (hv : v.cells.size = size) (hb : off + size ≤ cells.size) :
    ∃ cs' : Array Value, Instr.fill place cells ((i, v) :: rest) = Instr.fill place cs' rest ∧ cs'.toList = cells.toList.take off ++ v.cells.toList ++ cells.toList.drop (off + size) := by
  refine ⟨v.cells.zipIdx.foldl (fun cs (c, j) => cs.setIfInBounds (off + j) c) cells, ?_, ?_⟩
  · rw [Instr.fill, hp]
    simp only
    rw [if_neg (by simp [hv]; omega)]
  · have := fold_set off v.cells.toList 0 cells (by simp [hv]; omega)
    rw [← Array.foldl_toList]
    simp only [Array.toList_zipIdx]
    simpa [hv] using this

def RepPs (p : Rho) (C : Nat → Nat → Value → Prop) (w : World) : List (Nat × D) → List (Nat × Value) → Prop
  | [], [] => True
  | (i, d) :: r, (j, v) :: s => i = j ∧ RepD p C w d v ∧ RepPs p C w r s
  | _, _ => False

theorem buildS_goes (hT : TOk P T) {fs : List (Nat × Nat)} {place : Nat → Option (Nat × Nat)} (hp : ∀ i o ft ti, fs[i]? = some (o, ft) → T ft = some ti → place i = some (o, ti.size)) :
    ∀ (ps : List (Nat × D)) (vs : List (Nat × Value)) (c : Cs) (cells : Array Value) {φ : Prop} {c' : Cs}, RepPs p C w ps vs → Rep2 p C w c.d0 cells.toList → effBuildS T fs ps c = some (φ, c') → φ →
    ∃ out, Instr.fill place cells vs = some out ∧ Rep2 p C w c'.d0 out.toList
  | [], [], c, cells, φ, c', _, hr, h, _ => by cases h; exact ⟨cells, rfl, hr⟩
  | (i, d) :: r, [], _, _, _, _, hps, _, _, _ => by cases hps
  | [], _ :: _, _, _, _, _, hps, _, _, _ => by cases hps
  | (i, d) :: r, (j, v) :: s, c, cells, φ, c', hps, hr, h, hφ => by
    obtain ⟨rfl, hd, hrs⟩ := hps
    rw [effBuildS] at h
    split at h
    · rename_i o ft x hf hx
      split at h
      · rename_i ti hti
        split at h
        · rename_i φ' c'' he
          cases h
          obtain ⟨⟨f1, f2⟩, f3⟩ := hφ
          have hv := rep_cs hd hx
          have hsz : v.cells.size = ti.size := by
            have := hv.1
            rw [Cs.len_eq, f1] at this
            simpa using this.symm
          have hcl : cells.size = c.len := by
            have := hr.1
            rw [Cs.len_eq] at this
            simpa using this.symm
          obtain ⟨cs', h1, h2⟩ := fill_one (cells := cells) (rest := s) (hp i o ft ti hf hti) hsz (by omega)
          rw [h1]
          refine buildS_goes hT hp r s (c.put o ti.size x) cs' hrs ?_ he f3
          rw [h2, Cs.put_d0]
          exact rep2_append (rep2_append (rep2_take hr _) hv) (rep2_drop hr _)
        · cases h
      · cases h
    · cases h

theorem buildA_goes {sz : Nat} :
    ∀ (ps : List (Nat × D)) (vs : List (Nat × Value)) (c : Cs) (cells : Array Value) {φ : Prop} {c' : Cs}, RepPs p C w ps vs → Rep2 p C w c.d0 cells.toList → effBuildA sz ps c = some (φ, c') → φ →
    ∃ out, Instr.fill (fun i => some (i * sz, sz)) cells vs = some out ∧ Rep2 p C w c'.d0 out.toList
  | [], [], c, cells, φ, c', _, hr, h, _ => by cases h; exact ⟨cells, rfl, hr⟩
  | (i, d) :: r, [], _, _, _, _, hps, _, _, _ => by cases hps
  | [], _ :: _, _, _, _, _, hps, _, _, _ => by cases hps
  | (i, d) :: r, (j, v) :: s, c, cells, φ, c', hps, hr, h, hφ => by
    obtain ⟨rfl, hd, hrs⟩ := hps
    rw [effBuildA] at h
    split at h
    · rename_i x hx
      split at h
      · rename_i φ' c'' he
        cases h
        obtain ⟨⟨f1, f2⟩, f3⟩ := hφ
        have hv := rep_cs hd hx
        have hsz : v.cells.size = sz := by
          have := hv.1
          rw [Cs.len_eq, f1] at this
          simpa using this.symm
        have hcl : cells.size = c.len := by
          have := hr.1
          rw [Cs.len_eq] at this
          simpa using this.symm
        obtain ⟨cs', h1, h2⟩ := fill_one (cells := cells) (place := fun i => some (i * sz, sz)) (rest := s) (i := i) rfl hsz (by omega)
        rw [h1]
        refine buildA_goes r s (c.put (i * sz) sz x) cs' hrs ?_ he f3
        rw [h2, Cs.put_d0]
        exact rep2_append (rep2_append (rep2_take hr _) hv) (rep2_drop hr _)
      · cases h
    · cases h

theorem repPs_map {ev : Ev} {ρ : Operand → Value} : ∀ (ps : List (Nat × Operand)), (∀ q ∈ ps, RepD p C w (ev q.2) (ρ q.2)) → RepPs p C w (ps.map fun q => (q.1, ev q.2)) (ps.map fun q => (q.1, ρ q.2))
  | [], _ => trivial
  | q :: r, h => ⟨rfl, h q (by simp), repPs_map r fun q hq => h q (by simp [hq])⟩

theorem zero_run {t : Nat} {ti : TI} (h : TIOk P t ti) : ∃ z, (zeroValue t).run P w = .ok z w ∧ z.cells.toList = ti.zero := by
  obtain ⟨i, d, z, h1, h2, h3, h4, h5, h6, h7, h8⟩ := h.out
  exact ⟨z, by simp [zeroValue, typeInfo, h1, h6], h7⟩
theorem zero_one {t : Nat} {ti : TI} (h : TIOk P t ti) : ∀ u ∈ ti.zero, u.oneCell' = true := by
  obtain ⟨i, d, z, h1, h2, h3, h4, h5, h6, h7, h8⟩ := h.out
  exact h8

theorem mapM_places (hT : TOk P T) : ∀ (F : List Field), (∀ f ∈ F, ∃ n, (sizeOf f.type).run P w = .ok n w) →
    ∃ pl : List (Nat × Nat), (F.mapM fun (f : Field) => do pure (f.offset, ← sizeOf f.type) : Sem (List (Nat × Nat))).run P w = .ok pl w ∧ pl.length = F.length ∧ ∀ (i : Nat) (f : Field), F[i]? = some f → ∃ n, (sizeOf f.type).run P w = .ok n w ∧ pl[i]? = some (f.offset, n)
  | [], _ => ⟨[], by simp, rfl, fun i f h => by simp at h⟩
  | f :: F, h => by
    obtain ⟨n, hn⟩ := h f (by simp)
    obtain ⟨pl, h1, h2, h3⟩ := mapM_places hT F fun g hg => h g (by simp [hg])
    refine ⟨(f.offset, n) :: pl, by rw [List.mapM_cons]; simp only [Sem.run_bind, Sem.run_pure, Result.andThen_ok, hn, h1], by simp [h2], fun i g hg => ?_⟩
    cases i with
    | zero => simp at hg; subst hg; exact ⟨n, hn, rfl⟩
    | succ i => exact h3 i g (by simpa using hg)

theorem build_goes (hT : TOk P T) {t : Nat} {ps : Array (Nat × Operand)} {ev : Ev} {ρ : Operand → Value} (hρ : ∀ q ∈ ps.toList, RepD p C w (ev q.2) (ρ q.2)) {ef : Ef} (h : effBuild T t (ps.toList.map fun q => (q.1, ev q.2)) = some ef) (hφ : ef.φ) :
    ef.upds = [] ∧ ∃ v, (Instr.build t (ps.map fun (i, x) => (i, ρ x))).run P w = .ok v w ∧ RepD p C w ef.val v := by
  have hmap : (ps.map fun (i, x) => (i, ρ x)).toList = ps.toList.map fun q => (q.1, ρ q.2) := by simp
  have hps := repPs_map (p := p) (C := C) (w := w) ps.toList hρ
  unfold effBuild at h
  split at h
  · rename_i a b fs z ht
    obtain ⟨F, hF, hfs⟩ := struct_of hT ht
    cases hall : (fs.all fun q => (T q.2).isSome) with
    | false => simp [hall] at h
    | true =>
    simp only [hall, cond_true] at h
    have hsz : ∀ f ∈ F.toList, ∃ n, (sizeOf f.type).run P w = .ok n w := fun f hf => by
      have h1 := List.all_eq_true.1 hall (f.offset, f.type) (by rw [← hfs]; exact List.mem_map.2 ⟨f, hf, rfl⟩)
      obtain ⟨ti, hti⟩ := Option.isSome_iff_exists.1 h1
      exact ⟨_, (hT _ _ hti).size w⟩
    rw [Option.map_eq_some_iff] at h
    obtain ⟨⟨φ, c⟩, h1, rfl⟩ := h
    obtain ⟨zv, hz1, hz2⟩ := zero_run (w := w) (hT _ _ ht)
    obtain ⟨pl, hp1, hp2, hp3⟩ := mapM_places (w := w) hT F.toList hsz
    have hmapM : (F.mapM fun (f : Field) => do pure (f.offset, ← sizeOf f.type) : Sem (Array (Nat × Nat))).run P w = .ok pl.toArray w := by
      rw [Array.mapM_eq_mapM_toList]
      simp only [Sem.run_map, hp1, Result.andThen_ok]
    have hrz : Rep2 p C w (zeroCs z).d0 zv.cells.toList := by rw [hz2]; exact zeroCs_rep (zero_one (hT _ _ ht))
    obtain ⟨out, ho1, ho2⟩ := buildS_goes (place := (pl.toArray[·]?)) hT (fun i o ft ti hi hti => by
      obtain ⟨fd, k1, rfl, rfl⟩ := field_of hfs hi
      obtain ⟨n, k2, k3⟩ := hp3 i fd (by simpa using k1)
      have k4 := (hT _ _ hti).size w
      rw [k2] at k4
      cases k4
      simpa using k3) _ _ (zeroCs z) zv.cells hps hrz h1 hφ
    refine ⟨rfl, .agg out, ?_, out.toList, by simp, ho2⟩
    simp only [Instr.build, Sem.run_bind, hz1, run_underlying hF, Result.andThen_ok, Sem.run_pure, hmapM, hmap, ho1]
  · rename_i a b n e z ht
    split at h
    · rename_i ti hti
      rw [Option.map_eq_some_iff] at h
      obtain ⟨⟨φ, c⟩, h1, rfl⟩ := h
      have hu := arr_of hT ht
      obtain ⟨zv, hz1, hz2⟩ := zero_run (w := w) (hT _ _ ht)
      have hrz : Rep2 p C w (zeroCs z).d0 zv.cells.toList := by rw [hz2]; exact zeroCs_rep (zero_one (hT _ _ ht))
      obtain ⟨out, ho1, ho2⟩ := buildA_goes _ _ (zeroCs z) zv.cells hps hrz h1 hφ
      refine ⟨rfl, .agg out, ?_, out.toList, by simp, ho2⟩
      simp only [Instr.build, Sem.run_bind, hz1, run_underlying hu, Result.andThen_ok, Sem.run_pure, (hT _ _ hti).size w, hmap, ho1]
    · cases h
  · cases h
end
end Go.Proofs.YtcjeeoimjkhijaaDoor.Ab
