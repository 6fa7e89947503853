/- Addresses, pieces, lengths, conversions: they go as 'effQ' says; the quiet operations all together. No condition. -/
import Derived.Test.YtcjeeoimjkhijaaDoorAb5
namespace Go.Proofs.YtcjeeoimjkhijaaDoor.Ab
open Go Go.RowKit

section
variable {P : Program} {T : Nat → Option TI} {X : Ctx} {p : Rho} {w : World} {C : Nat → Nat → Value → Prop}

theorem field_goes (hT : TOk P T) {s f : Nat} {dx d : D} {vx : Value} {φ : Prop} (hx : RepD p C w dx vx) (h : effField T s f dx = some (φ, d))
    (hlive : ∀ id ver off, dx = .one (.ptr id ver off) → ∃ blk, p.mem id = some blk ∧ ver = blk.ver)
    (hlive' : ∀ id ver i j, dx = .one (.rptr id ver i j) → ∃ blk, p.mem id = some blk ∧ ver = blk.ver) :
    ∃ v, (Instr.fieldAt s vx f).run P w = .ok v w ∧ RepD p C w d v := by
  unfold effField at h
  split at h
  · rename_i sz by_ fs z hs
    obtain ⟨F, hF, hfs⟩ := struct_of hT hs
    split at h
    · rename_i o ft hf
      obtain ⟨fd, hfd, rfl, rfl⟩ := field_of hfs hf
      split at h
      · rename_i ti hti
        cases hz : Nat.beq ti.size 0 with
        | true => simp [hz] at h
        | false =>
          simp only [hz, cond_false] at h
          have hne : ti.size ≠ 0 := fun e => by rw [e] at hz; cases hz
          have hsz := (hT _ _ hti).size w
          have hrun : ∀ b o, (Instr.fieldAt s (.pointer (some ⟨b, o, none⟩)) f).run P w = .ok (.pointer (some ⟨b, o + fd.offset, none⟩)) w := fun b o => by
            simp [Instr.fieldAt, run_underlying hF, hfd, Instr.sureAddr, fieldPlace, hsz, hne, add_at]
          split at h
          · rename_i id ver off
            cases h
            obtain ⟨h0, blk, h1, h2, h3⟩ := hx
            obtain ⟨blk', k1, k2⟩ := hlive _ _ _ rfl
            rw [h1] at k1
            cases k1
            obtain ⟨g, hg, rfl⟩ := h3 k2
            exact ⟨_, hrun g off, rfl, blk, h1, h2, fun _ => ⟨g, hg, rfl⟩⟩
          · rename_i cs
            cases h
            obtain ⟨b, o, rfl, hc⟩ := hx
            refine ⟨_, hrun b o, b, o + fd.offset, rfl, fun j e he => ?_⟩
            rw [List.getElem?_drop] at he
            rw [Nat.add_assoc]
            exact hc _ e he
          · rename_i id ver i j
            cases h
            obtain ⟨h0, blk, h1, h2, h3⟩ := hx
            obtain ⟨blk', k1, k2⟩ := hlive' _ _ _ _ rfl
            rw [h1] at k1
            cases k1
            obtain ⟨g, hg, rfl⟩ := h3 k2
            refine ⟨_, hrun g _, rfl, blk, h1, h2, fun _ => ⟨g, hg, ?_⟩⟩
            rw [Nat.add_assoc]
          · cases h
      · cases h
    · cases h
  · cases h

theorem fieldV_goes (hT : TOk P T) {s f : Nat} {dx d : D} {vx : Value} {φ : Prop} (hx : RepD p C w dx vx) (h : effFieldV T s f dx = some (φ, d)) (hφ : φ) :
    ∃ v, (Instr.field s vx f).run P w = .ok v w ∧ RepD p C w d v := by
  unfold effFieldV at h
  split at h
  · rename_i sz by_ fs z hs
    obtain ⟨F, hF, hfs⟩ := struct_of hT hs
    split at h
    · rename_i o ft hf
      obtain ⟨fd, hfd, rfl, rfl⟩ := field_of hfs hf
      split at h
      · rename_i ti c hti
        simp only [Option.some.injEq] at h
        obtain ⟨vs, rfl, hr⟩ := hx
        obtain ⟨v, h1, h2⟩ := part_goes (hT _ _ hti) hr (o := fd.offset) (by rw [h]; exact hφ)
        rw [h] at h2
        exact ⟨v, by simp [Instr.field, run_underlying hF, hfd, asAgg, h1], h2⟩
      · cases h
    · cases h
  · cases h

theorem repE_sl {xs : List (List E)} {v : Value} (h : RepE C (.sl xs) v) : ∃ A n cap z b o, ∃ U : Nat → Nat → Value, v = .slice A n cap ∧ xs.length = n ∧ n ≤ cap ∧ cap ≤ maxLen ∧ (0 < n → A = some ⟨b, o, none⟩) ∧ (∀ cs ∈ xs, cs.length = z) ∧
    (∀ i cs j e, xs[i]? = some cs → cs[j]? = some e → C b (o + i * z + j) (U i j)) ∧ (∀ i cs j e, xs[i]? = some cs → cs[j]? = some e → RepE C e (U i j)) := by
  cases h with
  | sl A n cap z b o U xs hn hc hm hA hz hC hr => exact ⟨A, n, cap, z, b, o, U, rfl, hn, hc, hm, hA, hz, hC, hr⟩

theorem getD_some {α : Type} {xs : List α} {i : Nat} {d : α} (h : i < xs.length) : xs[i]? = some (xs.getD i d) := by simp [h]

theorem indexA_goes (hT : TOk P T) {t : Nat} {dx di d : D} {vx vi : Value} {φ : Prop} (hx : RepD p C w dx vx) (hi : RepD p C w di vi) (h : effIndexA T p.mem t dx di = some (φ, d)) (hφ : φ)
    (hlive : ∀ id ver off, dx = .one (.ptr id ver off) → ∃ blk, p.mem id = some blk ∧ ver = blk.ver)
    (hlive' : ∀ id ver i j, dx = .one (.rptr id ver i j) → ∃ blk, p.mem id = some blk ∧ ver = blk.ver) :
    ∃ v, (Instr.indexAt t vx vi).run P w = .ok v w ∧ RepD p C w d v := by
  unfold effIndexA at h
  split at h
  · rename_i k n
    obtain rfl := repV hi
    split at h
    · rename_i a b e z ht
      have hu := slice_of hT ht
      split at h
      · rename_i ti xs hti
        cases h
        have hsz := (hT _ _ hti).size w
        obtain ⟨A, m, cap, z, b, o, U, rfl, hn, hc, hm, hA, hz, hC, hr⟩ := repE_sl hx
        obtain ⟨h0, h1, h2⟩ := hφ
        have hlt : n.toNat < xs.length := by omega
        have hg := getD_some (d := []) hlt
        have hz2 : z = ti.size := by rw [← h2]; exact (hz _ (List.mem_of_getElem? hg)).symm
        have hAe := hA (by omega)
        subst hAe
        refine ⟨.pointer (some ⟨b, o + n.toNat * ti.size, none⟩), ?_, b, _, rfl, fun j e he => ⟨U n.toNat j, ?_, hr _ _ _ _ hg he⟩⟩
        · simp [Instr.indexAt, asIntOf, run_underlying hu, h0, show n < (m : Int) by omega, hsz, add_at]
        · have := hC _ _ _ _ hg he
          rw [hz2] at this
          exact this
      · rename_i ti id ver hti
        have hsz := (hT _ _ hti).size w
        split at h
        · rename_i bv z xs pub hb
          cases hv : (Nat.beq bv ver && Nat.beq z ti.size) with
          | false => simp [hv] at h
          | true =>
            simp only [hv, cond_true, Option.some.injEq, Prod.mk.injEq] at h
            obtain ⟨rfl, rfl⟩ := h
            simp only [Bool.and_eq_true] at hv
            obtain rfl := Nat.eq_of_beq_eq_true hv.1
            have hz := Nat.eq_of_beq_eq_true hv.2
            obtain ⟨_, blk, h1, h2, h3⟩ := hx
            rw [hb] at h1
            cases h1
            obtain ⟨z', n', q1, q2, q3⟩ := h3 rfl
            simp only [Body.shape, Prod.mk.injEq] at q1
            obtain ⟨rfl, rfl⟩ := q1
            rcases q3 with ⟨q3, _⟩ | ⟨g, cap, g1, rfl, g3, g4, g5⟩
            · omega
            · refine ⟨.pointer (some ⟨g, n.toNat * ti.size, none⟩), ?_, rfl, _, hb, Nat.le_refl _, fun _ => ⟨g, g1, ?_⟩⟩
              · simp [Instr.indexAt, asIntOf, run_underlying hu, hφ.1, hφ.2, hsz, add_at]
              · simp [Body.shape, hz]
        · cases h
      · cases h
    · rename_i a b len e z ht
      have hu := arr_of hT ht
      have hrun : ∀ (ti : TI), T e = some ti → (0 ≤ n ∧ n < (len : Int)) → ∀ b o, (Instr.indexAt t (.pointer (some ⟨b, o, none⟩)) (.int k n)).run P w = .ok (.pointer (some ⟨b, o + n.toNat * ti.size, none⟩)) w := fun ti hti hb b o => by
        have hsz := (hT _ _ hti).size w
        simp [Instr.indexAt, asIntOf, run_underlying hu, hb.1, hb.2, hsz, add_at, Instr.sureAddr]
      split at h
      · rename_i ti cs hti
        cases h
        obtain ⟨b, o, rfl, hc⟩ := hx
        refine ⟨_, hrun ti hti hφ b o, b, _, rfl, fun j e he => ?_⟩
        rw [List.getElem?_drop] at he
        rw [Nat.add_assoc]
        exact hc _ e he
      · rename_i ti id ver off hti
        cases h
        obtain ⟨h0, blk, h1, h2, h3⟩ := hx
        obtain ⟨blk', k1, k2⟩ := hlive _ _ _ rfl
        rw [h1] at k1
        cases k1
        obtain ⟨g, hg, rfl⟩ := h3 k2
        exact ⟨_, hrun ti hti hφ g off, rfl, blk, h1, h2, fun _ => ⟨g, hg, rfl⟩⟩
      · rename_i ti id ver i j hti
        cases h
        obtain ⟨h0, blk, h1, h2, h3⟩ := hx
        obtain ⟨blk', k1, k2⟩ := hlive' _ _ _ _ rfl
        rw [h1] at k1
        cases k1
        obtain ⟨g, hg, rfl⟩ := h3 k2
        refine ⟨_, hrun ti hti hφ g _, rfl, blk, h1, h2, fun _ => ⟨g, hg, ?_⟩⟩
        rw [Nat.add_assoc]
      · cases h
    · cases h
  · cases h

theorem indexV_goes (hT : TOk P T) {t : Nat} {dx di d : D} {vx vi : Value} {φ : Prop} (hx : RepD p C w dx vx) (hi : RepD p C w di vi) (h : effIndexV T t dx di = some (φ, d)) (hφ : φ) :
    ∃ v, (Instr.index t vx vi).run P w = .ok v w ∧ RepD p C w d v := by
  unfold effIndexV at h
  split at h
  · rename_i k n
    obtain rfl := repV hi
    split at h
    · rename_i a b len e z c ht
      have hu := arr_of hT ht
      split at h
      · rename_i ti hti
        simp only [Option.some.injEq, Prod.mk.injEq] at h
        obtain ⟨rfl, rfl⟩ := h
        have hsz := (hT _ _ hti).size w
        obtain ⟨vs, rfl, hr⟩ := hx
        obtain ⟨v, h1, h2⟩ := part_goes (hT _ _ hti) hr hφ.2.2
        exact ⟨v, by simp [Instr.index, asIntOf, run_underlying hu, hφ.1, hφ.2.1, hsz, h1], h2⟩
      · cases h
    · rename_i a b z s ht
      have hu := str_of hT ht
      obtain rfl := repV hx
      cases h
      have hlt : n.toNat < s.size := by omega
      have hge : s[n.toNat]? = some s[n.toNat] := by simp [hlt]
      refine ⟨.int .u8 (s[n.toNat].toNat : Int), by simp [Instr.index, asIntOf, run_underlying hu, hφ.1, hge], ?_⟩
      have he : s.data.toList.getD n.toNat 0 = s[n.toNat] := by
        have : n.toNat < s.data.toList.length := by simpa using hlt
        rw [List.getD_eq_getElem?_getD, List.getElem?_eq_getElem this]
        rfl
      rw [he]
      exact repV_mk rfl
    · cases h
  · cases h

theorem len_goes (hT : TOk P T) {t : Nat} {dx d : D} {vx : Value} {φ : Prop} (hx : RepD p C w dx vx) (h : effLen T p.mem t dx = some (φ, d)) (ty : TypeId) :
    ∃ v, (Builtin.len_ #[t] ty #[vx]).run P w = .ok v w ∧ RepD p C w d v := by
  unfold effLen at h
  split at h
  · rename_i a b e z ht
    have hu := slice_of hT ht
    have hrun : ∀ A n c, (Builtin.len_ #[t] ty #[.slice A n c]).run P w = .ok (.int .i64 (n : Int)) w := fun A n c => by simp [Builtin.len_, run_underlying hu, goInt]
    split at h
    · rename_i xs
      cases h
      obtain ⟨A, m, cap, z, b, o, U, rfl, hn, _⟩ := repE_sl hx
      exact ⟨_, hrun _ _ _, by rw [hn]; exact repV_mk rfl⟩
    · cases h
      obtain rfl : vx = .slice none 0 0 := hx
      exact ⟨_, hrun _ _ _, repV_mk rfl⟩
    · rename_i id ver
      split at h
      · rename_i bv z xs pub hb
        cases hv : Nat.beq bv ver with
        | false => simp [hv] at h
        | true =>
          obtain rfl := Nat.eq_of_beq_eq_true hv
          simp only [hv, cond_true, Option.some.injEq, Prod.mk.injEq] at h
          obtain ⟨rfl, rfl⟩ := h
          obtain ⟨_, blk, h1, h2, h3⟩ := hx
          rw [hb] at h1
          cases h1
          obtain ⟨z', n', q1, q2, q3⟩ := h3 rfl
          simp only [Body.shape, Prod.mk.injEq] at q1
          obtain ⟨rfl, rfl⟩ := q1
          rcases q3 with ⟨q3, A, rfl⟩ | ⟨g, cap, g1, rfl, g3, g4, g5⟩
          · exact ⟨_, hrun _ _ _, by rw [q3]; exact repV_mk rfl⟩
          · exact ⟨_, hrun _ _ _, repV_mk rfl⟩
      · cases h
    · rename_i id ver off z n
      split at h
      · rename_i bv body pub hb
        cases hv : Nat.beq bv ver with
        | false => simp [hv] at h
        | true =>
          obtain rfl := Nat.eq_of_beq_eq_true hv
          simp only [hv, cond_true, Option.some.injEq, Prod.mk.injEq] at h
          obtain ⟨rfl, rfl⟩ := h
          obtain ⟨_, blk, h1, h2, h3⟩ := hx
          rw [hb] at h1
          cases h1
          obtain ⟨_, _, g, cap, _, rfl, _⟩ := h3 rfl
          exact ⟨_, hrun _ _ _, repV_mk rfl⟩
      · cases h
    · cases h
  · rename_i a b z ht
    have hu := str_of hT ht
    split at h
    · rename_i s
      cases h
      obtain rfl := repV hx
      exact ⟨.int .i64 (s.size : Int), by simp [Builtin.len_, run_underlying hu, goInt], repV_mk rfl⟩
    · cases h
  · cases h
end
end Go.Proofs.YtcjeeoimjkhijaaDoor.Ab
