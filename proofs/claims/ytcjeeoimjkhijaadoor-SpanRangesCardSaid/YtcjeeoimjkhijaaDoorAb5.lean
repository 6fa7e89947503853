/- The quiet operations go as 'effQ' says. No condition. -/
import Derived.Test.YtcjeeoimjkhijaaDoorAb4
namespace Go.Proofs.YtcjeeoimjkhijaaDoor.Ab
open Go Go.RowKit

section
variable {P : Program} {T : Nat → Option TI} {X : Ctx} {p : Rho} {w : World} {C : Nat → Nat → Value → Prop}

theorem run_equalIn_bool (d : Nat) {t : TypeId} (a b : Bool) (hu : P.underlying t = some .bool) : (Op.equalIn (d + 1) t (.bool a) (.bool b)).run P w = .ok (a == b) w := by
  simp [Op.equalIn, run_underlying hu]
theorem run_eql_bool {t : TypeId} (a b : Bool) (hu : P.underlying t = some .bool) : (binOp .eql t (.bool a) (.bool b)).run P w = .ok (.bool (a == b)) w := by
  simp only [binOp]
  simp [Op.equal, Op.maxDepth, run_equalIn_bool 9999 a b hu]
theorem run_neq_bool {t : TypeId} (a b : Bool) (hu : P.underlying t = some .bool) : (binOp .neq t (.bool a) (.bool b)).run P w = .ok (.bool (!(a == b))) w := by
  simp only [binOp]
  simp [Op.equal, Op.maxDepth, run_equalIn_bool 9999 a b hu]

theorem struct_of (hT : TOk P T) {s : Nat} {a b : Nat} {fs : List (Nat × Nat)} {z : List Value} (h : T s = some ⟨a, b, .struct fs, z⟩) :
    ∃ F : Array Field, P.underlying s = some (.struct F) ∧ F.toList.map (fun f => (f.offset, f.type)) = fs := by
  obtain ⟨i, d, z, h1, h2, h3, h4, h5, _⟩ := (hT _ _ h).out
  obtain ⟨F, rfl, h6⟩ := h5
  exact ⟨F, h2, h6⟩
theorem field_of {F : Array Field} {fs : List (Nat × Nat)} (h : F.toList.map (fun f => (f.offset, f.type)) = fs) {f o ft : Nat} (hf : fs[f]? = some (o, ft)) : ∃ fd, F[f]? = some fd ∧ fd.offset = o ∧ fd.type = ft := by
  subst h
  simp only [List.getElem?_map, Option.map_eq_some_iff, Prod.mk.injEq] at hf
  obtain ⟨fd, h1, h2, h3⟩ := hf
  exact ⟨fd, by simpa using h1, h2, h3⟩

theorem rep2_at {c : Cs} {vs : List Value} (hr : Rep2 p C w c.d0 vs) {o : Nat} (ho : o < c.len) : ∃ u, vs[o]? = some u ∧ Rep0 p C w (c.at o) u := by
  have h1 := Cs.at_eq ho
  have h2 : o < vs.length := by rw [← hr.1, Cs.len_eq]; exact ho
  exact ⟨vs[o], List.getElem?_eq_getElem h2, hr.2 o _ _ h1 (List.getElem?_eq_getElem h2)⟩
theorem rep2_sub {xs : List D0} {vs : List Value} (hr : Rep2 p C w xs vs) (o n : Nat) : Rep2 p C w ((xs.drop o).take n) ((vs.drop o).take n) := by
  refine ⟨by simp [hr.1], fun i x u h1 h2 => ?_⟩
  rw [List.getElem?_take] at h1 h2
  split at h1
  · rename_i hi
    rw [if_pos hi] at h2
    rw [List.getElem?_drop] at h1 h2
    exact hr.2 _ _ _ h1 h2
  · cases h1

theorem part_goes {t : Nat} {ti : TI} (hti : TIOk P t ti) {c : Cs} {vs : List Value} (hr : Rep2 p C w c.d0 vs) {o : Nat} (hφ : (c.load ti o).1) :
    ∃ v, (part t vs.toArray o).run P w = .ok v w ∧ RepD p C w (c.load ti o).2 v := by
  unfold Cs.load at *
  have ha := hti.isAgg w
  have hs := hti.size w
  cases hk : ti.k.agg with
  | true =>
    simp only [hk, cond_true] at hφ ⊢
    rw [hk] at ha
    refine ⟨.agg (vs.toArray.extract o (o + ti.size)), by simp [part, ha, hs], (vs.drop o).take ti.size, ?_, by rw [Cs.sub_d0]; exact rep2_sub hr _ _⟩
    congr 1
    apply Array.ext'
    simp [List.extract_eq_take_drop]
  | false =>
    simp only [hk, cond_false] at hφ ⊢
    rw [hk] at ha
    obtain ⟨u, h1, h2⟩ := rep2_at hr hφ.1
    exact ⟨u, by simp [part, ha, h1], by rw [D0.as_eq hφ.2]; exact h2⟩

theorem slice_of (hT : TOk P T) {s : Nat} {a b e : Nat} {z : List Value} (h : T s = some ⟨a, b, .slice e, z⟩) : P.underlying s = some (.slice e) := by
  obtain ⟨i, d, z, h1, h2, h3, h4, h5, _⟩ := (hT _ _ h).out
  rw [h2, show d = .slice e from h5]
theorem arr_of (hT : TOk P T) {s : Nat} {a b n e : Nat} {z : List Value} (h : T s = some ⟨a, b, .arr n e, z⟩) : P.underlying s = some (.array n e) := by
  obtain ⟨i, d, z, h1, h2, h3, h4, h5, _⟩ := (hT _ _ h).out
  rw [h2, show d = .array n e from h5]
theorem str_of (hT : TOk P T) {s : Nat} {a b : Nat} {z : List Value} (h : T s = some ⟨a, b, .str, z⟩) : P.underlying s = some .string := by
  obtain ⟨i, d, z, h1, h2, h3, h4, h5, _⟩ := (hT _ _ h).out
  rw [h2, show d = .string from h5]
theorem int_of (hT : TOk P T) {s : Nat} {a b : Nat} {k : IntKind} {z : List Value} (h : T s = some ⟨a, b, .int k, z⟩) : P.underlying s = some (.int k) := by
  obtain ⟨i, d, z, h1, h2, h3, h4, h5, _⟩ := (hT _ _ h).out
  rw [h2, show d = .int k from h5]

theorem forIn_all {β : Type} (b0 b1 : β) (f : Nat → β → Sem (ForInStep β)) (g : Nat → Bool) : ∀ (l : List Nat), (∀ i ∈ l, (f i b0).run P w = .ok (bif g i then .yield b0 else .done b1) w) → (forIn l b0 f).run P w = .ok (bif l.all g then b0 else b1) w
  | [], _ => by simp
  | i :: l, h => by
    rw [List.forIn_cons, Sem.run_bind, h i (List.mem_cons_self ..)]
    have ih := forIn_all b0 b1 f g l fun j hj => h j (List.mem_cons_of_mem _ hj)
    cases hg : g i with
    | false => simp [hg]
    | true => simpa [hg] using ih
theorem eqD_agg_run (hT : TOk P T) : ∀ (d : Nat) {t : Nat} {x y : D} {vx vy : Value}, RepD p C w x vx → RepD p C w y vy → (eqD T d t x y).1 → ∀ D, d ≤ D → (Op.equalIn D t vx vy).run P w = .ok (eqD T d t x y).2 w
  | 0, _, _, _, _, _, _, _, h, _, _ => by cases h
  | d + 1, t, x, y, vx, vy, hx, hy, h, D, hD => by
    obtain ⟨D, rfl⟩ : ∃ e, D = e + 1 := ⟨D - 1, by omega⟩
    have hD : d ≤ D := by omega
    have ih := @eqD_agg_run hT d
    unfold eqD at h ⊢
    split at h
    · rename_i k0 _ k a k' b hti
      obtain rfl := repV hx
      obtain rfl := repV hy
      obtain rfl : k = k' := h
      obtain ⟨i, dd, z, h1, h2, h3, h4, h5, _⟩ := (hT _ _ hti).out
      obtain rfl : dd = _ := h5
      exact run_equalIn_int w D t k _ a b h2
    · rename_i a b hti
      obtain rfl := repV hx
      obtain rfl := repV hy
      obtain ⟨i, dd, z, h1, h2, h3, h4, h5, _⟩ := (hT _ _ hti).out
      obtain rfl : dd = .bool := h5
      exact run_equalIn_bool D a b h2
    · rename_i a b hti
      obtain rfl := repV hx
      obtain rfl := repV hy
      obtain ⟨i, dd, z, h1, h2, h3, h4, h5, _⟩ := (hT _ _ hti).out
      obtain rfl : dd = .string := h5
      exact run_equalIn_string w D t a b h2
    · rename_i _ _ fs _ c c' hti
      obtain ⟨F, hF, hfs⟩ := struct_of hT hti
      obtain ⟨vs, rfl, hr⟩ := hx
      obtain ⟨us, rfl, hs⟩ := hy
      have hw := (hT _ _ hti).wide rfl _ hF
      have hF' : P.fieldsOf t = F := by unfold Program.fieldsOf; rw [hF]
      rw [run_equalIn_struct w D t _ _ (by rw [hF', hF]) hw.1, hF']
      have hn := hw.2.2 F rfl
      subst hfs
      generalize F.toList = l at h hn ⊢
      clear hF hF' hw hti
      induction l with
      | nil => simp [Op.eqFields, eqFs]
      | cons f l ihl =>
        rw [List.map_cons] at h ⊢
        unfold eqFs at h ⊢
        dsimp only at h ⊢
        cases hft : T f.type with
        | none => rw [hft] at h; cases h
        | some fti =>
          rw [hft] at h
          dsimp only at h ⊢
          obtain ⟨v, k1, k2⟩ := part_goes (hT _ _ hft) hr h.1
          obtain ⟨u, l1, l2⟩ := part_goes (hT _ _ hft) hs h.2.1
          have e := ih k2 l2 h.2.2.1 D hD
          have e2 := ihl h.2.2.2 (fun g hg => hn g (List.mem_cons_of_mem _ hg))
          rw [Op.eqFields, if_pos (hn f (List.mem_cons_self ..))]
          simp only [Sem.run_bind, k1, l1, e, Result.andThen_ok]
          cases (eqD T d f.type (c.load fti f.offset).2 (c'.load fti f.offset).2).2 with
          | false => simp
          | true => simpa using e2
    · rename_i _ _ n e _ c c' hti
      obtain ⟨vs, rfl, hr⟩ := hx
      obtain ⟨us, rfl, hs⟩ := hy
      have ha := arr_of hT hti
      cases he : T e with
      | none => rw [he] at h; cases h
      | some ti =>
        rw [he] at h
        dsimp only at h ⊢
        have hsz := (hT _ _ he).size
        have hbody : ∀ i, i < n → ∃ v u, (part e vs.toArray (i * ti.size)).run P w = .ok v w ∧ (part e us.toArray (i * ti.size)).run P w = .ok u w ∧ (Op.equalIn D e v u).run P w = .ok (eqD T d e (c.load ti (i * ti.size)).2 (c'.load ti (i * ti.size)).2).2 w := fun i hi => by
          obtain ⟨q1, q2, q3⟩ := h i hi
          obtain ⟨v, k1, k2⟩ := part_goes (hT _ _ he) hr q1
          obtain ⟨u, l1, l2⟩ := part_goes (hT _ _ he) hs q2
          exact ⟨v, u, k1, l1, ih k2 l2 q3 D hD⟩
        simp only [Op.equalIn, Sem.run_bind, run_underlying ha, Result.andThen_ok, hsz w, Std.Legacy.Range.forIn_eq_forIn_range', Std.Legacy.Range.size, Nat.sub_zero, Nat.add_sub_cancel, Nat.div_one]
        rw [forIn_all _ (some false, ()) _ (fun i => (eqD T d e (c.load ti (i * ti.size)).2 (c'.load ti (i * ti.size)).2).2) (List.range' 0 n)]
        rotate_left
        · intro i hi
          have hin : i < n := by simpa using hi
          obtain ⟨v, u, k1, k2, k3⟩ := hbody i hin
          simp only [Sem.run_bind, k1, k2, k3, Result.andThen_ok]
          cases (eqD T d e (c.load ti (i * ti.size)).2 (c'.load ti (i * ti.size)).2).2 <;> simp
        rw [List.range_eq_range']
        cases (List.range' 0 n).all fun i => (eqD T d e (c.load ti (i * ti.size)).2 (c'.load ti (i * ti.size)).2).2 <;> simp [Result.andThen]
    · cases h

theorem bin_goes (hT : TOk P T) {op : BinOp} {t : Nat} {dx dy d : D} {vx vy : Value} {φ : Prop} (hx : RepD p C w dx vx) (hy : RepD p C w dy vy) (h : effBin T op t dx dy = some (φ, d)) (hφ : φ) :
    ∃ v, (∀ x y, (do eqGuard op t x y vx vy; binOp op t vx vy : Sem Value).run P w = .ok v w) ∧ RepD p C w d v := by
  unfold effBin at h
  split at h
  · rename_i k a k' b
    obtain rfl := repV hx
    obtain rfl := repV hy
    rw [Option.map_eq_some_iff] at h
    obtain ⟨⟨φ', v⟩, h1, h2⟩ := h
    simp only [Prod.mk.injEq] at h2
    obtain ⟨rfl, rfl⟩ := h2
    refine ⟨v, fun x y => ?_, repV_mk (intV_one h1)⟩
    have := run_intV (P := P) w (t := t) h1 hφ
    have hg : (eqGuard op t x y (.int k a) (.int k' b)).run P w = .ok () w := by cases op <;> rfl
    simp only [Sem.run_bind, hg, Result.andThen_ok, this]
  · rename_i a b
    obtain rfl := repV hx
    obtain rfl := repV hy
    rw [Option.map_eq_some_iff] at h
    obtain ⟨⟨φ', v⟩, h1, h2⟩ := h
    simp only [Prod.mk.injEq] at h2
    obtain ⟨rfl, rfl⟩ := h2
    refine ⟨v, fun x y => ?_, repV_mk (strV_one h1)⟩
    have := run_strV (P := P) w (t := t) h1 hφ
    have hg : (eqGuard op t x y (.string a) (.string b)).run P w = .ok () w := by cases op <;> rfl
    simp only [Sem.run_bind, hg, Result.andThen_ok, this]
  · rename_i k a k' b
    obtain rfl := repV hx
    obtain rfl := repV hy
    rw [Option.map_eq_some_iff] at h
    obtain ⟨⟨φ', v⟩, h1, h2⟩ := h
    simp only [Prod.mk.injEq] at h2
    obtain ⟨rfl, rfl⟩ := h2
    refine ⟨v, fun x y => ?_, repV_mk (floatV_one h1)⟩
    have := run_floatV (P := P) w (t := t) h1 hφ
    have hg : (eqGuard op t x y (.float k a) (.float k' b)).run P w = .ok () w := by cases op <;> rfl
    simp only [Sem.run_bind, hg, Result.andThen_ok, this]
  · rename_i a b
    obtain rfl := repV hx
    obtain rfl := repV hy
    split at h
    · rename_i hti
      cases h
      obtain ⟨i, dd, z, h1, h2, h3, h4, h5, _⟩ := (hT _ _ hti).out
      obtain rfl : dd = .bool := h5
      refine ⟨_, fun x y => ?_, repV_mk rfl⟩
      have hg : (eqGuard .eql t x y (.bool a) (.bool b)).run P w = .ok () w := rfl
      simp only [Sem.run_bind, hg, Result.andThen_ok]
      exact run_eql_bool a b h2
    · rename_i hti
      cases h
      obtain ⟨i, dd, z, h1, h2, h3, h4, h5, _⟩ := (hT _ _ hti).out
      obtain rfl : dd = .bool := h5
      refine ⟨_, fun x y => ?_, repV_mk rfl⟩
      have hg : (eqGuard .neq t x y (.bool a) (.bool b)).run P w = .ok () w := rfl
      simp only [Sem.run_bind, hg, Result.andThen_ok]
      exact run_neq_bool a b h2
    · cases h
  · rename_i c c'
    obtain ⟨vs, rfl, hr⟩ := hx
    obtain ⟨us, rfl, hs⟩ := hy
    have key : (eqD T 9 t (.agg c) (.agg c')).1 → P.eqGuardType P.depth t = false ∧ (Op.equalIn 10000 t (.agg vs.toArray) (.agg us.toArray)).run P w = .ok (eqD T 9 t (.agg c) (.agg c')).2 w := fun hφ => by
      refine ⟨?_, eqD_agg_run hT 9 (x := .agg c) (y := .agg c') (vx := .agg vs.toArray) (vy := .agg us.toArray) ⟨vs, rfl, hr⟩ ⟨us, rfl, hs⟩ hφ 10000 (by decide)⟩
      unfold eqD at hφ
      split at hφ
      all_goals first | (exact hφ.elim) | skip
      all_goals first | (rename_i hti e1 e2; cases e1; done) | (rename_i hti e1 e2; obtain ⟨i, dd, z, h1, h2, _⟩ := (hT _ _ hti).out; exact ((hT _ _ hti).wide rfl _ h2).2.1)
    split at h
    · cases h
      obtain ⟨k1, k2⟩ := key hφ
      refine ⟨_, fun x y => ?_, repV_mk rfl⟩
      simp only [Sem.run_bind, run_eqGuard_agg w .eql t x y _ _ k1, Result.andThen_ok, run_eql_struct, k2]
    · cases h
      obtain ⟨k1, k2⟩ := key hφ
      refine ⟨_, fun x y => ?_, repV_mk rfl⟩
      simp only [Sem.run_bind, run_eqGuard_agg w .neq t x y _ _ k1, Result.andThen_ok, run_neq_struct, k2]
    · cases h
  · cases h

theorem un_goes {op : UnOp} {dx d : D} {vx : Value} {φ : Prop} (hx : RepD p C w dx vx) (h : effUn op dx = some (φ, d)) :
    ∃ v, (Op.unary op vx).run P w = .ok v w ∧ RepD p C w d v := by
  unfold effUn at h
  split at h
  · obtain rfl := repV hx; cases h; exact ⟨_, rfl, repV_mk rfl⟩
  · obtain rfl := repV hx; cases h; exact ⟨_, rfl, repV_mk rfl⟩
  · obtain rfl := repV hx; cases h; exact ⟨_, rfl, repV_mk (bitsV_one _ _ _ _)⟩
  · cases h

theorem mem_of {id : Nat} {blk : Blk} {g : Nat} (hR : RM X p w) (hb : p.mem id = some blk) (hg : p.μ id = some g) : MemAt p (CW X p w) w g 0 blk.cells := by
  have := hR.blk id blk hb
  simp only [BlkOk, hg] at this
  obtain ⟨_, _, _, _, cur, e, lo, hi, g4, _, _, g7⟩ := this
  intro j x hx
  obtain ⟨u, h1, h2⟩ := g7 j x hx
  exact ⟨u, by rw [Nat.zero_add, cell_row g4]; exact h1, h2⟩

theorem mem_es {b o : Nat} {cs : List E} (h : ∀ j e, cs[j]? = some e → ∃ u, C b (o + j) u ∧ RepE C e u) (hC : ∀ b o u, C b o u → w.cell? ⟨b, o, none⟩ = some u) : MemAt p C w b o (Cs.es cs).d0 := by
  intro j x hx
  simp only [Cs.d0, List.getElem?_map, Option.map_eq_some_iff] at hx
  obtain ⟨e, h1, rfl⟩ := hx
  obtain ⟨u, h2, h3⟩ := h j e h1
  exact ⟨u, hC _ _ _ h2, h3⟩

theorem flatten_at {z : Nat} : ∀ (xs : List (List E)), (∀ cs ∈ xs, cs.length = z) → ∀ i j, j < z → xs.flatten[i * z + j]? = (xs.getD i [])[j]?
  | [], _, i, j, _ => by simp
  | x :: xs, h, i, j, hj => by
    have hx : x.length = z := h x (by simp)
    cases i with
    | zero => simp [hj, hx, List.getElem?_append_left]
    | succ i =>
      have ih := flatten_at xs (fun cs hc => h cs (by simp [hc])) i j hj
      rw [List.flatten_cons, List.getElem?_append_right (by rw [hx, Nat.succ_mul]; omega)]
      have : (i + 1) * z + j - x.length = i * z + j := by rw [hx, Nat.succ_mul]; omega
      rw [this, ih]
      simp

theorem mem_row {id z : Nat} {xs : List (List E)} {ver pub g : Nat} (hR : RM X p w) (hb : p.mem id = some ⟨ver, .row z xs, pub⟩) (hg : p.μ id = some g) (i : Nat) :
    MemAt p (CW X p w) w g (i * z) (Cs.es (xs.getD i [])).d0 := by
  have hm := mem_of hR hb hg
  have hok : (Body.row z xs).ok := by
    have := hR.blk id _ hb
    simp only [BlkOk, hg] at this
    exact this.1
  intro j x hx
  simp only [Cs.d0, List.getElem?_map, Option.map_eq_some_iff] at hx
  obtain ⟨e, h1, rfl⟩ := hx
  have hj : j < z := by
    have hjl := (List.getElem?_eq_some_iff.1 h1).1
    by_cases hi : i < xs.length
    · rw [List.getD_eq_getElem?_getD, List.getElem?_eq_getElem hi] at hjl
      simp only [Option.getD_some] at hjl
      rw [hok.2 _ (List.getElem_mem hi)] at hjl
      exact hjl
    · simp [List.getD_eq_getElem?_getD, List.getElem?_eq_none (Nat.le_of_not_lt hi)] at hjl
  have := flatten_at xs hok.2 i j hj
  obtain ⟨u, h2, h3⟩ := hm (i * z + j) (.e e) (by
    show (xs.flatten.map D0.e)[i * z + j]? = _
    rw [List.getElem?_map, this, h1]; rfl)
  exact ⟨u, by rw [Nat.zero_add] at h2; exact h2, h3⟩

theorem CW_cell {b o : Nat} {u : Value} (h : CW X p w b o u) : w.cell? ⟨b, o, none⟩ = some u := h.1

theorem loadE_goes (hT : TOk P T) (hR : RM X p w) {t : Nat} {ti : TI} (ht : T t = some ti) {dx d : D} {vx : Value} {φ : Prop} (hx : RepD p (CW X p w) w dx vx) (h : effLoad ti p.mem dx = some (φ, d)) (hφ : φ) :
    ∃ v, (Instr.loadAt t vx).run P w = .ok v w ∧ RepD p (CW X p w) w d v := by
  have hti := hT _ _ ht
  unfold effLoad at h
  split at h
  · rename_i cs
    simp only [Option.some.injEq] at h
    obtain ⟨b, o, rfl, hc⟩ := hx
    have := load_goes (p := p) (C := CW X p w) (b := b) hti (c := .es cs) (o := o) (k := 0) (mem_es (p := p) hc fun _ _ _ h => h.1) (by rw [h]; exact hφ)
    rw [h] at this
    exact this
  · rename_i id ver off
    split at h
    · rename_i bv c pub hb
      cases hv : Nat.beq bv ver with
      | false => simp [hv] at h
      | true =>
        obtain rfl := Nat.eq_of_beq_eq_true hv
        simp only [hv, cond_true, Option.some.injEq] at h
        obtain ⟨blk, h1, h2, h3⟩ := hx.2
        rw [hb] at h1
        cases h1
        obtain ⟨g, hg, rfl⟩ := h3 rfl
        have hm := mem_of hR hb hg
        have := load_goes hti (c := c) (o := 0) (k := off) hm (by rw [h]; exact hφ)
        rw [h] at this
        simpa using this
    · cases h
  · rename_i id ver i j
    split at h
    · rename_i bv z xs pub hb
      cases hv : Nat.beq bv ver with
      | false => simp [hv] at h
      | true =>
        obtain rfl := Nat.eq_of_beq_eq_true hv
        simp only [hv, cond_true, Option.some.injEq, Prod.mk.injEq] at h
        obtain ⟨rfl, rfl⟩ := h
        obtain ⟨_, blk, h1, h2, h3⟩ := hx
        rw [hb] at h1
        cases h1
        obtain ⟨g, hg, rfl⟩ := h3 rfl
        exact load_goes hti (mem_row hR hb hg i) hφ
    · cases h
  · cases h
theorem chunksE_len {z n : Nat} {cs : List E} : (chunksE z n cs).length = n := by simp [chunksE]
theorem chunksE_get {z n : Nat} {cs : List E} {i : Nat} {ch : List E} (h : (chunksE z n cs)[i]? = some ch) : i < n ∧ ch = (cs.drop (i * z)).take z := by
  have hi := (List.getElem?_eq_some_iff.1 h).1
  rw [chunksE_len] at hi
  refine ⟨hi, ?_⟩
  unfold chunksE at h
  rw [List.getElem?_map, List.getElem?_range hi] at h
  exact (Option.some.inj h).symm
theorem chunksE_z {z n : Nat} {cs : List E} (h : n * z ≤ cs.length) : ∀ c ∈ chunksE z n cs, c.length = z := by
  intro c hc
  obtain ⟨i, hi⟩ := List.getElem?_of_mem hc
  obtain ⟨h1, rfl⟩ := chunksE_get hi
  have : (i + 1) * z ≤ n * z := Nat.mul_le_mul_right _ h1
  rw [Nat.succ_mul] at this
  rw [List.length_take, List.length_drop]
  omega
theorem chunksE_succ {z n : Nat} {cs : List E} : chunksE z (n + 1) cs = chunksE z n cs ++ [(cs.drop (n * z)).take z] := by
  unfold chunksE
  rw [List.range_succ, List.map_append]
  rfl
theorem chunksE_flat {z : Nat} {cs : List E} : ∀ n, n * z ≤ cs.length → (chunksE z n cs).flatten = cs.take (n * z)
  | 0, _ => by simp [chunksE]
  | n + 1, h => by
    have h' : n * z ≤ cs.length := by rw [Nat.succ_mul] at h; omega
    rw [chunksE_succ, List.flatten_append, chunksE_flat n h', Nat.succ_mul, List.take_add]
    simp
theorem bsl_mem {id ver pub g : Nat} {cs : List E} (hR : RM X p w) (hb : p.mem id = some ⟨ver, .box (.es cs), pub⟩) (hg : p.μ id = some g) (off m : Nat) :
    MemAt p (CW X p w) w g off (((cs.drop off).take m).map .e) := by
  have h := (mem_of hR hb hg).sub off m
  rw [Nat.zero_add] at h
  have e : (((Blk.mk ver (.box (.es cs)) pub).cells.drop off).take m) = ((cs.drop off).take m).map D0.e := by
    simp only [Blk.cells, Body.cells, Cs.d0, List.map_drop, List.map_take]
  rw [e] at h
  exact h

end
end Go.Proofs.YtcjeeoimjkhijaaDoor.Ab
