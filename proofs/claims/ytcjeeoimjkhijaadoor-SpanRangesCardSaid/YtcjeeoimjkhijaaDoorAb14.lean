/- Every operation goes as 'eff' says. No condition. -/
import Derived.Test.YtcjeeoimjkhijaaDoorAb13
namespace Go.Proofs.YtcjeeoimjkhijaaDoor.Ab
open Go Go.RowKit

section
variable {P : Program} {T : Nat → Option TI} {X : Ctx} {w : World} {p : Rho}

theorem effM_sound (hT : TOk P T) (hR : RM X p w) {id : Nat} {o : Oper} {ev : Ev} {ρ : Operand → Value} (hρ : ∀ x ∈ o.op.operands, RepD p (CW X p w) w (ev x) (ρ x)) {ef : Ef} (h : effM T p.mem id o.op ev = some ef) (hφ : ef.φ) : Goes P X p w o ρ ef := by
  obtain ⟨dst, op, type, pos, after, guard⟩ := o
  dsimp only at h hρ
  unfold effM at h
  split at h
  · rename_i t x
    split at h
    · rename_i c hc
      cases h
      have hr := rep_cs (hρ x (by simp [Op.operands])) hc
      refine box_goes hR hr (t := t) ?_
      simp [execOp, Instr.box, newVar, newRow]
    · cases h
  · rename_i t
    split at h
    · rename_i ti hti
      cases h
      obtain ⟨z, hz1, hz2⟩ := zero_run (w := w) (hT _ _ hti)
      have hr : Rep2 p (CW X p w) w (zeroCs ti.zero).d0 z.cells.toList := by rw [hz2]; exact zeroCs_rep (zero_one (hT _ _ hti))
      refine box_goes hR hr (t := t) ?_
      simp [execOp, Instr.alloc, newVar, newRow, hz1]
    · cases h
  · rename_i t ps
    obtain ⟨h1, v, h2, h3⟩ := build_goes (P := P) (ρ := ρ) hT (fun q hq => hρ q.2 (by simp only [Op.operands]; simpa using ⟨q.1, by simpa using hq⟩)) h hφ
    refine ⟨v, w, p.μ, .inl (by simp only [execOp, Sem.run_bind, h2]; rfl), ?_⟩
    rw [h1]
    exact ⟨hR, Kept.rfl', h3⟩
  · rename_i t len ps
    exact buildSlice_goes hT hR rfl (fun q hq => hρ q.2 (by simp only [Op.operands]; simpa using ⟨q.1, by simpa using hq⟩)) h hφ
  · rename_i t a x
    split at h
    · rename_i ti hti
      exact store_goes hT hR hti rfl (hρ a (by simp [Op.operands])) (hρ x (by simp [Op.operands])) h hφ
    · cases h
  · rename_i args ts
    split at h
    · rename_i x y t tx ha ht
      obtain rfl : args = #[x, y] := by rw [← Array.toArray_toList (xs := args), ha]
      obtain rfl : ts = #[t, tx] := by rw [← Array.toArray_toList (xs := ts), ht]
      obtain ⟨v, w', μ', h1, h2⟩ := append_goes (P := P) (ty := type) hT hR (hρ x (by simp [Op.operands, Call.operands])) (hρ y (by simp [Op.operands, Call.operands])) h hφ
      exact ⟨v, w', μ', .inl (by simp [execOp, resolve, invoke, builtin, h1]), h2⟩
    · cases h
  · rename_i args ts
    split at h
    · rename_i x y t tx ha ht
      obtain rfl : args = #[x, y] := by rw [← Array.toArray_toList (xs := args), ha]
      obtain rfl : ts = #[t, tx] := by rw [← Array.toArray_toList (xs := ts), ht]
      exact copy_goes hT hR rfl (hρ x (by simp [Op.operands, Call.operands])) (hρ y (by simp [Op.operands, Call.operands])) h hφ
    · cases h
  · rename_i s d x
    exact bytes_goes hT hR rfl (hρ x (by simp [Op.operands])) h hφ
  · rename_i t x lo hi
    exact sliceO_goes hT hR rfl (hρ x (by simp [Op.operands])) (fun y hy => hρ y (by simp [Op.operands, hy])) (fun y hy => hρ y (by simp [Op.operands, hy])) h hφ
  · rename_i t l c
    exact make_goes hT hR rfl (hρ l (by simp [Op.operands])) (hρ c (by simp [Op.operands])) h hφ
  · rename_i f first caps
    split at h
    · rename_i cs hfi hcs
      cases h
      obtain rfl : first = #[] := by rw [← Array.toArray_toList (xs := first), hfi]
      refine ⟨.func (.func f) #[] (caps.map ρ), w, p.μ, .inl (by simp [execOp, Instr.makeFunc]), hR, Kept.rfl', (caps.map ρ).toList, by rw [Array.toArray_toList], ?_⟩
      have key : ∀ (l : List Operand) (cs : List (Nat × Nat × Nat)), (∀ x ∈ l, RepD p (CW X p w) w (ev x) (ρ x)) → capsOf (l.map ev) = some cs → cs.length = (l.map ρ).length ∧ ∀ (i : Nat) c u, cs[i]? = some c → (l.map ρ)[i]? = some u → Live p c.1 c.2.1 fun g => u = .pointer (some ⟨g, c.2.2, none⟩) := by
        intro l
        induction l with
        | nil => intro cs _ h; cases h; exact ⟨rfl, fun i c u h => nomatch h⟩
        | cons x l ih =>
          intro cs hx h
          rw [List.map_cons, capsOf.eq_def] at h
          split at h
          · rename_i hq; cases hq
          · rename_i i v o r hq
            obtain ⟨hq1, rfl⟩ := List.cons.inj hq
            split at h
            · rename_i cs' h1
              cases h
              obtain ⟨k1, k2⟩ := ih cs' (fun y hy => hx y (List.mem_cons_of_mem _ hy)) h1
              refine ⟨by simp [k1], fun j c u hc hu => ?_⟩
              cases j with
              | zero =>
                simp at hc hu
                subst hc
                subst hu
                have := hx x (List.mem_cons_self ..)
                rw [hq1] at this
                exact this.2
              | succ j => exact k2 j c u (by simpa using hc) (by simpa using hu)
            · cases h
          · cases h
      have := key caps.toList cs (fun x hx => hρ x (by simp only [Op.operands]; simpa using hx)) hcs
      rw [Array.toList_map]
      exact this
    · cases h
  · cases h

theorem eff_sound (hT : TOk P T) (hR : RM X p w) {id : Nat} {o : Oper} {ev : Ev} {ρ : Operand → Value} (hρ : ∀ x ∈ o.op.operands, RepD p (CW X p w) w (ev x) (ρ x)) {ef : Ef} (h : eff T p.mem id o.op ev = some ef) (hφ : ef.φ) : Goes P X p w o ρ ef := by
  unfold eff at h
  split at h
  · rename_i φ d hq
    cases h
    obtain ⟨v, h1, h2⟩ := effQ_sound hT hR hρ hq hφ
    exact ⟨v, w, p.μ, .inl h1, hR, Kept.rfl', h2⟩
  · exact effM_sound hT hR hρ h hφ
end
end Go.Proofs.YtcjeeoimjkhijaaDoor.Ab
