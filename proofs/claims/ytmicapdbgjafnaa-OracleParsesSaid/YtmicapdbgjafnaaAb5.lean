/- The quiet operations go as 'effQ' says. No condition. -/
import Derived.Test.YtmicapdbgjafnaaAb4
namespace Go.Proofs.Ytmicapdbgjafnaa.Ab
open Go Go.RowKit

section
variable {P : Program} {T : Nat → Option TI} {X : Ctx} {p : Rho} {w : World} {C : Nat → Nat → Value → Prop}

theorem run_equalIn_bool (d : Nat) {t : TypeId} (a b : Bool) (hu : P.underlying t = some .bool) : (Op.equalIn (d + 1) t (.bool a) (.bool b)).run P w = .ok (a == b) w := by
  simp [Op.equalIn, run_underlying hu]
theorem run_eql_bool {t : TypeId} (a b : Bool) (hu : P.underlying t = some .bool) : (binOp .eql t (.bool a) (.bool b)).run P w = .ok (.bool (a == b)) w := by
  simp only [binOp]
  simp [Op.equal, Op.maxDepth, run_equalIn_bool 9999 a b hu]
theorem run_neq_bool {t : TypeId} (a b : Bool) (hu : P.underlying t = some .bool) : (binOp .neq t (.bool a) (.bool b)).run P w = .ok (.bool (!(a == b))) w := by
  simp only [binOp]
  simp [Op.equal, Op.maxDepth, run_equalIn_bool 9999 a b hu]

theorem bin_goes (hT : TOk P T) {op : BinOp} {t : Nat} {dx dy d : D} {vx vy : Value} {φ : Prop} (hx : RepD p C w dx vx) (hy : RepD p C w dy vy) (h : effBin T op t dx dy = some (φ, d)) (hφ : φ) :
    ∃ v, (∀ x y, (do eqGuard op t x y vx vy; binOp op t vx vy : Sem Value).run P w = .ok v w) ∧ RepD p C w d v := by
  unfold effBin at h
  split at h
  · rename_i k a k' b
    obtain rfl := repV hx
    obtain rfl := repV hy
    rw [Option.map_eq_some_iff] at h
    obtain ⟨⟨φ', v⟩, h1, h2⟩ := h
    simp only [Prod.mk.injEq] at h2
    obtain ⟨rfl, rfl⟩ := h2
    refine ⟨v, fun x y => ?_, repV_mk (intV_one h1)⟩
    have := run_intV (P := P) w (t := t) h1 hφ
    have hg : (eqGuard op t x y (.int k a) (.int k' b)).run P w = .ok () w := by cases op <;> rfl
    simp only [Sem.run_bind, hg, Result.andThen_ok, this]
  · rename_i a b
    obtain rfl := repV hx
    obtain rfl := repV hy
    rw [Option.map_eq_some_iff] at h
    obtain ⟨⟨φ', v⟩, h1, h2⟩ := h
    simp only [Prod.mk.injEq] at h2
    obtain ⟨rfl, rfl⟩ := h2
    refine ⟨v, fun x y => ?_, repV_mk (strV_one h1)⟩
    have := run_strV (P := P) w (t := t) h1 hφ
    have hg : (eqGuard op t x y (.string a) (.string b)).run P w = .ok () w := by cases op <;> rfl
    simp only [Sem.run_bind, hg, Result.andThen_ok, this]
  · rename_i a b
    obtain rfl := repV hx
    obtain rfl := repV hy
    split at h
    · rename_i hti
      cases h
      obtain ⟨i, dd, z, h1, h2, h3, h4, h5, _⟩ := (hT _ _ hti).out
      obtain rfl : dd = .bool := h5
      refine ⟨_, fun x y => ?_, repV_mk rfl⟩
      have hg : (eqGuard .eql t x y (.bool a) (.bool b)).run P w = .ok () w := rfl
      simp only [Sem.run_bind, hg, Result.andThen_ok]
      exact run_eql_bool a b h2
    · rename_i hti
      cases h
      obtain ⟨i, dd, z, h1, h2, h3, h4, h5, _⟩ := (hT _ _ hti).out
      obtain rfl : dd = .bool := h5
      refine ⟨_, fun x y => ?_, repV_mk rfl⟩
      have hg : (eqGuard .neq t x y (.bool a) (.bool b)).run P w = .ok () w := rfl
      simp only [Sem.run_bind, hg, Result.andThen_ok]
      exact run_neq_bool a b h2
    · cases h
  · cases h

theorem un_goes {op : UnOp} {dx d : D} {vx : Value} {φ : Prop} (hx : RepD p C w dx vx) (h : effUn op dx = some (φ, d)) :
    ∃ v, (Op.unary op vx).run P w = .ok v w ∧ RepD p C w d v := by
  unfold effUn at h
  split at h
  · obtain rfl := repV hx; cases h; exact ⟨_, rfl, repV_mk rfl⟩
  · obtain rfl := repV hx; cases h; exact ⟨_, rfl, repV_mk rfl⟩
  · obtain rfl := repV hx; cases h; exact ⟨_, rfl, repV_mk (bitsV_one _ _ _ _)⟩
  · cases h

theorem mem_of {id : Nat} {blk : Blk} {g : Nat} (hR : RM X p w) (hb : p.mem id = some blk) (hg : p.μ id = some g) : MemAt p (CW X p w) w g 0 blk.cells := by
  have := hR.blk id blk hb
  simp only [BlkOk, hg] at this
  obtain ⟨_, _, _, _, cur, e, lo, hi, g4, _, _, g7⟩ := this
  intro j x hx
  obtain ⟨u, h1, h2⟩ := g7 j x hx
  exact ⟨u, by rw [Nat.zero_add, cell_row g4]; exact h1, h2⟩

theorem mem_es {b o : Nat} {cs : List E} (h : ∀ j e, cs[j]? = some e → ∃ u, C b (o + j) u ∧ RepE C e u) (hC : ∀ b o u, C b o u → w.cell? ⟨b, o, none⟩ = some u) : MemAt p C w b o (Cs.es cs).d0 := by
  intro j x hx
  simp only [Cs.d0, List.getElem?_map, Option.map_eq_some_iff] at hx
  obtain ⟨e, h1, rfl⟩ := hx
  obtain ⟨u, h2, h3⟩ := h j e h1
  exact ⟨u, hC _ _ _ h2, h3⟩

theorem flatten_at {z : Nat} : ∀ (xs : List (List E)), (∀ cs ∈ xs, cs.length = z) → ∀ i j, j < z → xs.flatten[i * z + j]? = (xs.getD i [])[j]?
  | [], _, i, j, _ => by simp
  | x :: xs, h, i, j, hj => by
    have hx : x.length = z := h x (by simp)
    cases i with
    | zero => simp [hj, hx, List.getElem?_append_left]
    | succ i =>
      have ih := flatten_at xs (fun cs hc => h cs (by simp [hc])) i j hj
      rw [List.flatten_cons, List.getElem?_append_right (by rw [hx, Nat.succ_mul]; omega)]
      have : (i + 1) * z + j - x.length = i * z + j := by rw [hx, Nat.succ_mul]; omega
      rw [this, ih]
      simp

theorem mem_row {id z : Nat} {xs : List (List E)} {ver pub g : Nat} (hR : RM X p w) (hb : p.mem id = some ⟨ver, .row z xs, pub⟩) (hg : p.μ id = some g) (i : Nat) :
    MemAt p (CW X p w) w g (i * z) (Cs.es (xs.getD i [])).d0 := by
  have hm := mem_of hR hb hg
  have hok : (Body.row z xs).ok := by
    have := hR.blk id _ hb
    simp only [BlkOk, hg] at this
    exact this.1
  intro j x hx
  simp only [Cs.d0, List.getElem?_map, Option.map_eq_some_iff] at hx
  obtain ⟨e, h1, rfl⟩ := hx
  have hj : j < z := by
    have hjl := (List.getElem?_eq_some_iff.1 h1).1
    by_cases hi : i < xs.length
    · rw [List.getD_eq_getElem?_getD, List.getElem?_eq_getElem hi] at hjl
      simp only [Option.getD_some] at hjl
      rw [hok.2 _ (List.getElem_mem hi)] at hjl
      exact hjl
    · simp [List.getD_eq_getElem?_getD, List.getElem?_eq_none (Nat.le_of_not_lt hi)] at hjl
  have := flatten_at xs hok.2 i j hj
  obtain ⟨u, h2, h3⟩ := hm (i * z + j) (.e e) (by
    show (xs.flatten.map D0.e)[i * z + j]? = _
    rw [List.getElem?_map, this, h1]; rfl)
  exact ⟨u, by rw [Nat.zero_add] at h2; exact h2, h3⟩

theorem CW_cell {b o : Nat} {u : Value} (h : CW X p w b o u) : w.cell? ⟨b, o, none⟩ = some u := h.1

theorem loadE_goes (hT : TOk P T) (hR : RM X p w) {t : Nat} {ti : TI} (ht : T t = some ti) {dx d : D} {vx : Value} {φ : Prop} (hx : RepD p (CW X p w) w dx vx) (h : effLoad ti p.mem dx = some (φ, d)) (hφ : φ) :
    ∃ v, (Instr.loadAt t vx).run P w = .ok v w ∧ RepD p (CW X p w) w d v := by
  have hti := hT _ _ ht
  unfold effLoad at h
  split at h
  · rename_i cs
    simp only [Option.some.injEq] at h
    obtain ⟨b, o, rfl, hc⟩ := hx
    have := load_goes (p := p) (C := CW X p w) (b := b) hti (c := .es cs) (o := o) (k := 0) (mem_es (p := p) hc fun _ _ _ h => h.1) (by rw [h]; exact hφ)
    rw [h] at this
    exact this
  · rename_i id ver off
    split at h
    · rename_i bv c pub hb
      cases hv : Nat.beq bv ver with
      | false => simp [hv] at h
      | true =>
        obtain rfl := Nat.eq_of_beq_eq_true hv
        simp only [hv, cond_true, Option.some.injEq] at h
        obtain ⟨blk, h1, h2, h3⟩ := hx.2
        rw [hb] at h1
        cases h1
        obtain ⟨g, hg, rfl⟩ := h3 rfl
        have hm := mem_of hR hb hg
        have := load_goes hti (c := c) (o := 0) (k := off) hm (by rw [h]; exact hφ)
        rw [h] at this
        simpa using this
    · cases h
  · rename_i id ver i j
    split at h
    · rename_i bv z xs pub hb
      cases hv : Nat.beq bv ver with
      | false => simp [hv] at h
      | true =>
        obtain rfl := Nat.eq_of_beq_eq_true hv
        simp only [hv, cond_true, Option.some.injEq, Prod.mk.injEq] at h
        obtain ⟨rfl, rfl⟩ := h
        obtain ⟨_, blk, h1, h2, h3⟩ := hx
        rw [hb] at h1
        cases h1
        obtain ⟨g, hg, rfl⟩ := h3 rfl
        exact load_goes hti (mem_row hR hb hg i) hφ
    · cases h
  · cases h
end
end Go.Proofs.Ytmicapdbgjafnaa.Ab
