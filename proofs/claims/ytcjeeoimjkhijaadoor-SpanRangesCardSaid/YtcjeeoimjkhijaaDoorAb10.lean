/- What is handed out is published; new blocks. No condition. -/
import Derived.Test.YtcjeeoimjkhijaaDoorAb9
namespace Go.Proofs.YtcjeeoimjkhijaaDoor.Ab
open Go Go.RowKit

section
variable {P : Program} {T : Nat → Option TI} {X : Ctx} {w : World}

def PubOk (m : Mem) (us : Upds) : Prop := ∀ u ∈ us, ∃ b, m u.1 = some b ∧ u.2 = ⟨b.ver, b.body, b.cells.length⟩

theorem RM.pub_le {p : Rho} (h : RM X p w) {id : Nat} {b : Blk} (hb : p.mem id = some b) : b.pub ≤ b.cells.length := by
  have := h.blk id b hb
  unfold BlkOk at this
  split at this
  · rw [this.2.1]; exact Nat.zero_le _
  · exact this.2.2.2.1

theorem appU_cons (m : Mem) (u : Nat × Blk) (us : Upds) : appU m (u :: us) = appU (upd m u.1 (some u.2)) us := rfl
theorem appU_append (m : Mem) (us vs : Upds) : appU m (us ++ vs) = appU (appU m us) vs := by simp [appU, List.foldl_append]

theorem RM.pubs {μ : Nat → Option Nat} : ∀ (us : Upds) (m : Mem), RM X ⟨m, μ⟩ w → PubOk m us →
    RM X ⟨appU m us, μ⟩ w ∧ Kept ⟨m, μ⟩ (CW X ⟨m, μ⟩ w) w ⟨appU m us, μ⟩ (CW X ⟨appU m us, μ⟩ w) w ∧ (∀ u ∈ us, appU m us u.1 = some u.2) ∧ ∀ id, (∀ u ∈ us, u.1 ≠ id) → appU m us id = m id
  | [], m, h, _ => ⟨h, Kept.rfl', (fun u hu => nomatch hu), fun _ _ => rfl⟩
  | u :: us, m, h, hp => by
    obtain ⟨b, hb, hu⟩ := hp u (by simp)
    have h1 := h.pub (id := u.1) (n := b.cells.length) hb (h.pub_le hb) (Nat.le_refl _)
    have hp' : PubOk (upd m u.1 (some u.2)) us := fun v hv => by
      obtain ⟨c, hc, hv'⟩ := hp v (by simp [hv])
      by_cases hi : v.1 = u.1
      · rw [hi, hb] at hc
        cases hc
        exact ⟨u.2, by rw [hi, upd_same], by rw [hv', hu]; rfl⟩
      · exact ⟨c, by rw [upd_ne _ _ hi]; exact hc, hv'⟩
    rw [← hu] at h1
    obtain ⟨k1, k2, k3, k4⟩ := RM.pubs us _ h1.1 hp'
    refine ⟨k1, h1.2.trans k2, fun v hv => ?_, fun id hid => ?_⟩
    · rw [appU_cons]
      by_cases hmem : ∃ v' ∈ us, v'.1 = v.1
      · obtain ⟨v', hv', e⟩ := hmem
        have := k3 v' hv'
        rw [e] at this
        rw [this]
        obtain ⟨c, hc, e1⟩ := hp v' (by simp [hv'])
        obtain ⟨c', hc', e2⟩ := hp v hv
        rw [e, hc'] at hc
        cases hc
        rw [e1, e2]
      · rcases List.mem_cons.1 hv with rfl | hv
        · rw [k4 _ (fun v' hv' e => hmem ⟨v', hv', e⟩), upd_same]
        · exact absurd ⟨v, hv, rfl⟩ hmem
    · rw [appU_cons, k4 id (fun v hv => hid v (by simp [hv])), upd_ne _ _ (Ne.symm (hid u (by simp)))]

theorem frz_ok {m : Mem} {x : D0} {e : E} {us : Upds} (h : frz m x = some (e, us)) : PubOk m us := by
  unfold frz at h
  split at h
  · cases h; exact fun u hu => by cases hu
  · cases h; exact fun u hu => by cases hu
  · rename_i id ver
    split at h
    · rename_i bv z xs pub hb
      cases hv : Nat.beq bv ver with
      | false => simp [hv] at h
      | true =>
        simp only [hv, cond_true, Option.some.injEq, Prod.mk.injEq] at h
        obtain ⟨rfl, rfl⟩ := h
        intro u hu
        simp at hu
        subst hu
        exact ⟨_, hb, rfl⟩
    · cases h
  · rename_i id ver off z n
    split at h
    · rename_i bv cs pub hb
      cases hv : Nat.beq bv ver with
      | false => simp [hv] at h
      | true =>
        simp only [hv, cond_true, Option.some.injEq, Prod.mk.injEq] at h
        obtain ⟨rfl, rfl⟩ := h
        intro u hu
        simp at hu
        subst hu
        exact ⟨_, hb, rfl⟩
    · cases h
  · cases h
theorem frzL_ok {m : Mem} : ∀ {xs : List D0} {es : List E} {us : Upds}, frzL m xs = some (es, us) → PubOk m us
  | [], _, _, h => by cases h; exact fun u hu => by cases hu
  | x :: r, es, us, h => by
    rw [frzL] at h
    split at h
    · rename_i e u es' us' h1 h2
      cases h
      intro v hv
      rcases List.mem_append.1 hv with hv | hv
      · exact frz_ok h1 v hv
      · exact frzL_ok h2 v hv
    · cases h
theorem frzC_ok {m : Mem} {c : Cs} {es : List E} {us : Upds} (h : frzC m c = some (es, us)) : PubOk m us := by
  cases c with
  | es xs => cases h; exact fun u hu => by cases hu
  | ds xs => exact frzL_ok h

theorem flatten_len {z : Nat} : ∀ (xs : List (List E)), (∀ cs ∈ xs, cs.length = z) → xs.flatten.length = xs.length * z
  | [], _ => by simp
  | x :: xs, h => by
    rw [List.flatten_cons, List.length_append, flatten_len xs (fun cs hc => h cs (by simp [hc])), h x (by simp), List.length_cons, Nat.succ_mul]
    omega

theorem row_ok {p : Rho} (h : RM X p w) {id ver z pub : Nat} {xs : List (List E)} (hb : p.mem id = some ⟨ver, .row z xs, pub⟩) : 0 < z ∧ ∀ cs ∈ xs, cs.length = z := by
  have := h.blk id _ hb
  unfold BlkOk at this
  split at this
  · exact this.2.2
  · exact this.1

/-- an own row, all of it published, reads as data -/
theorem own_data {p : Rho} (h : RM X p w) {id ver z : Nat} {xs : List (List E)} (hb : p.mem id = some ⟨ver, .row z xs, (Body.row z xs).cells.length⟩) {v : Value} (hv : Rep0 p (CW X p w) w (.own id ver) v) :
    RepE (CW X p w) (.sl xs) v := by
  obtain ⟨hz0, hz⟩ := row_ok h hb
  obtain ⟨_, blk, h1, h2, h3⟩ := hv
  rw [hb] at h1
  cases h1
  obtain ⟨z', n', q1, q2, q3⟩ := h3 rfl
  simp only [Body.shape, Prod.mk.injEq] at q1
  obtain ⟨rfl, rfl⟩ := q1
  rcases q3 with ⟨q3, A, rfl⟩ | ⟨g, cap, g1, rfl, g3, g4, g5⟩
  · have hx0 : xs = [] := List.eq_nil_of_length_eq_zero q3
    subst hx0
    exact RepE.sl A 0 0 z 0 0 (fun _ _ => undef) [] rfl (Nat.le_refl _) (Nat.zero_le _) (fun h => absurd h (by omega)) (fun cs hc => by cases hc) (fun i cs j e hi => by cases hi) (fun i cs j e hi => by cases hi)
  · have hok := h.blk id _ hb
    simp only [BlkOk, g1] at hok
    obtain ⟨_, b1, b2, _⟩ := hok
    have key : ∀ i cs j e, xs[i]? = some cs → cs[j]? = some e → ∃ u, CW X p w g (0 + i * z + j) u ∧ RepE (CW X p w) e u := fun i cs j e hi hj => by
      have hm := mem_row h hb g1 i
      have hgd : xs.getD i [] = cs := by simp [List.getD_eq_getElem?_getD, hi]
      rw [hgd] at hm
      obtain ⟨u, u1, u2⟩ := hm j (.e e) (by simp [Cs.d0, hj])
      refine ⟨u, ⟨by rw [Nat.zero_add]; exact u1, fun hno => absurd b1 hno, fun _ id' blk' m1 m2 => ?_⟩, u2⟩
      obtain rfl := b2 id' blk' m1 m2
      rw [hb] at m1
      cases m1
      have hil := (List.getElem?_eq_some_iff.1 hi).1
      have hjl := (List.getElem?_eq_some_iff.1 hj).1
      rw [hz _ (List.mem_of_getElem? hi)] at hjl
      simp only [Body.cells, List.length_map, flatten_len xs hz]
      have : (i + 1) * z ≤ xs.length * z := Nat.mul_le_mul_right _ hil
      rw [Nat.succ_mul] at this
      omega
    refine RepE.sl _ _ _ z g 0 (fun i j => (w.cell? ⟨g, 0 + i * z + j, none⟩).getD undef) xs rfl g3 g4 (fun _ => rfl) hz (fun i cs j e hi hj => ?_) (fun i cs j e hi hj => ?_)
    · obtain ⟨u, k1, k2⟩ := key i cs j e hi hj
      rw [k1.1]
      exact k1
    · obtain ⟨u, k1, k2⟩ := key i cs j e hi hj
      rw [k1.1]
      exact k2

/-- a piece of a variable, all of it published, reads as data -/
theorem bsl_data {p : Rho} (h : RM X p w) {id ver off z n : Nat} {cs : List E} (hb : p.mem id = some ⟨ver, .box (.es cs), (Body.box (.es cs)).cells.length⟩) {v : Value} (hv : Rep0 p (CW X p w) w (.bsl id ver off z n) v) :
    RepE (CW X p w) (.sl (chunksE z n (cs.drop off))) v := by
  obtain ⟨_, blk, h1, h2, h3⟩ := hv
  rw [hb] at h1
  cases h1
  obtain ⟨z0, z1, g, cap, g1, rfl, g3, g4⟩ := h3 rfl
  simp only [Body.shape, Cs.d0, List.length_map] at z1
  have hok := h.blk id _ hb
  simp only [BlkOk, g1] at hok
  obtain ⟨_, b1, b2, _⟩ := hok
  have hfit : n * z ≤ (cs.drop off).length := by rw [List.length_drop]; omega
  have key : ∀ i ch j e, (chunksE z n (cs.drop off))[i]? = some ch → ch[j]? = some e → ∃ u, CW X p w g (off + i * z + j) u ∧ RepE (CW X p w) e u := fun i ch j e hi hj => by
    have hz := chunksE_z hfit _ (List.mem_of_getElem? hi)
    obtain ⟨hin, he⟩ := chunksE_get hi
    have hjl := (List.getElem?_eq_some_iff.1 hj).1
    have hm := bsl_mem h hb g1 (off + i * z) z
    rw [← List.drop_drop, ← he] at hm
    obtain ⟨u, u1, u2⟩ := hm j (.e e) (by simp [hj])
    refine ⟨u, ⟨u1, fun hno => absurd b1 hno, fun _ id' blk' m1 m2 => ?_⟩, u2⟩
    obtain rfl := b2 id' blk' m1 m2
    rw [hb] at m1
    cases m1
    have : (i + 1) * z ≤ n * z := Nat.mul_le_mul_right _ hin
    rw [Nat.succ_mul] at this
    simp only [Body.cells, Cs.d0, List.length_map]
    omega
  refine RepE.sl _ _ _ z g off (fun i j => (w.cell? ⟨g, off + i * z + j, none⟩).getD undef) _ chunksE_len g3 g4 (fun _ => rfl) (chunksE_z hfit) (fun i ch j e hi hj => ?_) (fun i ch j e hi hj => ?_)
  · obtain ⟨u, k1, k2⟩ := key i ch j e hi hj
    rw [k1.1]
    exact k1
  · obtain ⟨u, k1, k2⟩ := key i ch j e hi hj
    rw [k1.1]
    exact k2

theorem frz_rep {m m' : Mem} {μ : Nat → Option Nat} (h : RM X ⟨m', μ⟩ w) {x : D0} {e : E} {us : Upds} {v : Value} (hv : Rep0 ⟨m', μ⟩ (CW X ⟨m', μ⟩ w) w x v) (hf : frz m x = some (e, us)) (hu : ∀ u ∈ us, m' u.1 = some u.2) :
    RepE (CW X ⟨m', μ⟩ w) e v := by
  unfold frz at hf
  split at hf
  · cases hf; exact hv
  · cases hf
    obtain rfl : v = .slice none 0 0 := hv
    exact RepE.sl none 0 0 0 0 0 (fun _ _ => undef) [] rfl (Nat.le_refl _) (Nat.zero_le _) (fun h => absurd h (by omega)) (fun cs hc => by cases hc) (fun i cs j e hi => by cases hi) (fun i cs j e hi => by cases hi)
  · rename_i id ver
    split at hf
    · rename_i bv z xs pub hb
      cases hbv : Nat.beq bv ver with
      | false => simp [hbv] at hf
      | true =>
        obtain rfl := Nat.eq_of_beq_eq_true hbv
        simp only [hbv, cond_true, Option.some.injEq, Prod.mk.injEq] at hf
        obtain ⟨rfl, rfl⟩ := hf
        exact own_data h (hu (id, ⟨bv, .row z xs, (Body.row z xs).cells.length⟩) (List.mem_singleton.2 rfl)) hv
    · cases hf
  · rename_i id ver off z n
    split at hf
    · rename_i bv cs pub hb
      cases hbv : Nat.beq bv ver with
      | false => simp [hbv] at hf
      | true =>
        obtain rfl := Nat.eq_of_beq_eq_true hbv
        simp only [hbv, cond_true, Option.some.injEq, Prod.mk.injEq] at hf
        obtain ⟨rfl, rfl⟩ := hf
        exact bsl_data h (hu (id, ⟨bv, .box (.es cs), (Body.box (.es cs)).cells.length⟩) (List.mem_singleton.2 rfl)) hv
    · cases hf
  · cases hf
theorem frzL_rep {m m' : Mem} {μ : Nat → Option Nat} (h : RM X ⟨m', μ⟩ w) : ∀ {xs : List D0} {es : List E} {us : Upds} {vs : List Value}, Rep2 ⟨m', μ⟩ (CW X ⟨m', μ⟩ w) w xs vs → frzL m xs = some (es, us) → (∀ u ∈ us, m' u.1 = some u.2) →
    Rep2 ⟨m', μ⟩ (CW X ⟨m', μ⟩ w) w (es.map .e) vs
  | [], _, _, vs, hr, hf, _ => by cases hf; exact hr
  | x :: r, es, us, [], hr, hf, hu => by have := hr.1; simp at this
  | x :: r, es, us, v :: vs, hr, hf, hu => by
    rw [frzL] at hf
    split at hf
    · rename_i e u es' us' h1 h2
      cases hf
      have ih := frzL_rep h (xs := r) (vs := vs) ⟨by simpa using hr.1, fun i y u hy hu => hr.2 (i + 1) y u (by simpa using hy) (by simpa using hu)⟩ h2 (fun u hu' => hu u (by simp [hu']))
      have h0 := frz_rep h (hr.2 0 x v rfl rfl) h1 (fun u hu' => hu u (by simp [hu']))
      refine ⟨by simp [ih.1], fun i y u hy hu => ?_⟩
      cases i with
      | zero => simp at hy hu; subst hy; subst hu; exact h0
      | succ i => exact ih.2 i y u (by simpa using hy) (by simpa using hu)
    · cases hf
theorem frzC_rep {m m' : Mem} {μ : Nat → Option Nat} (h : RM X ⟨m', μ⟩ w) {c : Cs} {es : List E} {us : Upds} {vs : List Value} (hr : Rep2 ⟨m', μ⟩ (CW X ⟨m', μ⟩ w) w c.d0 vs) (hf : frzC m c = some (es, us)) (hu : ∀ u ∈ us, m' u.1 = some u.2) :
    Rep2 ⟨m', μ⟩ (CW X ⟨m', μ⟩ w) w (es.map .e) vs := by
  cases c with
  | es xs => cases hf; exact hr
  | ds xs => exact frzL_rep h hr hf hu

theorem ptr_data {p : Rho} {w : World} {X : Ctx} (h : RM X p w) {id ver off : Nat} {cs : List E} (hb : p.mem id = some ⟨ver, .box (.es cs), (Body.box (.es cs)).cells.length⟩) {p' : Rho} {v : Value} (hv : Rep0 p (CW X p w) w (.ptr id ver off) v) :
    Rep0 p' (CW X p w) w (.eptr (cs.drop off)) v := by
  obtain ⟨_, blk, h1, h2, h3⟩ := hv
  rw [hb] at h1
  cases h1
  obtain ⟨g, g1, rfl⟩ := h3 rfl
  have hok := h.blk id _ hb
  simp only [BlkOk, g1] at hok
  obtain ⟨_, b1, b2, _, cur, et, lo, hi, b4, b5, b6, b7⟩ := hok
  refine ⟨g, off, rfl, fun j e he => ?_⟩
  rw [List.getElem?_drop] at he
  obtain ⟨u, u1, u2⟩ := b7 (off + j) (.e e) (by simp [Blk.cells, Body.cells, Cs.d0, he])
  refine ⟨u, ⟨by rw [cell_row b4]; exact u1, fun hno => absurd b1 hno, fun _ id' blk' m1 m2 => ?_⟩, u2⟩
  obtain rfl := b2 id' blk' m1 m2
  rw [hb] at m1
  cases m1
  have := (List.getElem?_eq_some_iff.1 he).1
  simpa [Body.cells, Cs.d0] using this

/-! ### the shape of the claim -/
def Goes (P : Program) (X : Ctx) (p : Rho) (w : World) (o : Oper) (ρ : Operand → Value) (ef : Ef) : Prop :=
  ∃ v w' μ', ((execOp ρ o).run P w = .ok (.value v) w' ∨ ((execOp ρ o).run P w = .ok .skip w' ∧ v = undef)) ∧
    RM X ⟨appU p.mem ef.upds, μ'⟩ w' ∧ Kept p (CW X p w) w ⟨appU p.mem ef.upds, μ'⟩ (CW X ⟨appU p.mem ef.upds, μ'⟩ w') w' ∧ RepD ⟨appU p.mem ef.upds, μ'⟩ (CW X ⟨appU p.mem ef.upds, μ'⟩ w') w' ef.val v

theorem nver_lt {p : Rho} {id : Nat} : ∀ b, p.mem id = some b → b.ver < nver p.mem id := fun b hb => by simp [nver, hb]

/-- a new variable -/
theorem box_goes {p : Rho} (hR : RM X p w) {o : Oper} {ρ : Operand → Value} {c : Cs} {vs : List Value} {t : TypeId} {id : Nat} (hr : Rep2 p (CW X p w) w c.d0 vs) (hrun : (execOp ρ o).run P w = .ok (.value (.pointer (some ⟨w.heap.size, 0, none⟩))) (w.alloc (.cells vs.toArray t))) :
    Goes P X p w o ρ ⟨True, .one (.ptr id (nver p.mem id) 0), [(id, ⟨nver p.mem id, .box c, 0⟩)]⟩ := by
  have h1 := hR.alloc (ob := vs.toArray) (t := t) (lo := 0) (hi := 0) (id := id) (blk := ⟨nver p.mem id, .box c, 0⟩) (w.alloc (.cells vs.toArray t)) rfl rfl rfl rfl trivial (by omega) (by
      show c.d0.length ≤ _
      rw [hr.1]; simp) (Nat.zero_le _) nver_lt (fun i x hx => by
      have hi : i < vs.length := by rw [← hr.1]; exact (List.getElem?_eq_some_iff.1 hx).1
      exact ⟨vs[i], by simp [hi], hr.2 i x _ hx (List.getElem?_eq_getElem hi)⟩)
  exact ⟨_, _, _, .inl hrun, h1.1, h1.2, rfl, _, upd_same _ _ _, Nat.le_refl _, fun _ => ⟨_, upd_same _ _ _, rfl⟩⟩
end
end Go.Proofs.YtcjeeoimjkhijaaDoor.Ab
