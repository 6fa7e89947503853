/- append goes as 'effAppend' says. No condition. -/
import Derived.Test.YtcjeeoimjkhijaaDoorAb10
namespace Go.Proofs.YtcjeeoimjkhijaaDoor.Ab
open Go Go.RowKit

section
variable {P : Program} {T : Nat → Option TI} {X : Ctx} {w : World} {p : Rho}

theorem flatten_get {z : Nat} (xs : List (List E)) (hz : ∀ cs ∈ xs, cs.length = z) {k : Nat} {e : E} (h : xs.flatten[k]? = some e) :
    0 < z ∧ xs[k / z]? = some (xs.getD (k / z) []) ∧ (xs.getD (k / z) [])[k % z]? = some e ∧ k = k / z * z + k % z := by
  have hk := (List.getElem?_eq_some_iff.1 h).1
  rw [flatten_len xs hz] at hk
  have hz0 : 0 < z := by
    rcases Nat.eq_zero_or_pos z with h0 | h0
    · rw [h0] at hk; simp at hk
    · exact h0
  have hlt : k / z < xs.length := Nat.div_lt_of_lt_mul (by rw [Nat.mul_comm]; exact hk)
  have he := Nat.div_add_mod k z
  have hm := Nat.mod_lt k hz0
  rw [Nat.mul_comm] at he
  have := flatten_at xs hz (k / z) (k % z) hm
  rw [he, h] at this
  exact ⟨hz0, getD_some hlt, this.symm, he.symm⟩

/-- the cells behind data -/
theorem repE_mem {C : Nat → Nat → Value → Prop} (hC : ∀ b o u, C b o u → w.cell? ⟨b, o, none⟩ = some u) {xs : List (List E)} {A : Option Addr} {n cap : Nat} (h : RepE C (.sl xs) (.slice A n cap)) (h0 : 0 < n) :
    ∃ b o, A = some ⟨b, o, none⟩ ∧ MemAt p C w b o (xs.flatten.map .e) := by
  obtain ⟨A', m, cap', z, b, o, U, he, hn, hc, hm, hA, hz, hC', hr⟩ := repE_sl h
  cases he
  refine ⟨b, o, hA h0, fun j x hx => ?_⟩
  simp only [List.getElem?_map, Option.map_eq_some_iff] at hx
  obtain ⟨e, h1, rfl⟩ := hx
  obtain ⟨z0, f1, f2, f3⟩ := flatten_get xs hz h1
  have h2 := hC _ _ _ (hC' _ _ _ _ f1 f2)
  exact ⟨U (j / z) (j % z), by rw [show o + j = o + j / z * z + j % z by omega]; exact h2, hr _ _ _ _ f1 f2⟩

theorem memAt_src {xs : List D0} {b o : Nat} {C : Nat → Nat → Value → Prop} (hm : MemAt p C w b o xs) {size n c : Nat} {tx e' : TypeId} (hk : P.underlying tx = some (.slice e')) (hl : xs.length = n * size) :
    ∃ news, Src P size tx (.slice (some ⟨b, o, none⟩) n c) n news w ∧ Rep2 p C w xs news := by
  obtain ⟨vs, h1, h2⟩ := hm.list
  exact ⟨vs, Src.ofSlice w hk _ n c vs (by rw [← h1.1, hl]) (fun j u hu => by rw [add_at]; exact h2 j u hu) (rep2_one h1), h1⟩

theorem strBytes_len (s : ByteArray) : (strBytes s).length = s.size := by simp [strBytes]
theorem strBytes_rep {C : Nat → Nat → Value → Prop} (s : ByteArray) : Rep2 p C w ((strBytes s).flatten.map .e) (byteCells s) := by
  have hf : (strBytes s).flatten.map D0.e = s.data.toList.map fun b => D0.e (.v (.int .u8 (b.toNat : Int))) := by
    unfold strBytes
    induction s.data.toList with
    | nil => rfl
    | cons a l ih => simp [ih]
  rw [hf]
  unfold byteCells
  refine ⟨by simp, fun i x u h1 h2 => ?_⟩
  simp only [List.getElem?_map, Option.map_eq_some_iff] at h1 h2
  obtain ⟨b, k1, rfl⟩ := h1
  obtain ⟨b', k2, rfl⟩ := h2
  rw [k1] at k2
  cases k2
  exact RepE.v _ rfl

theorem src_goes (hT : TOk P T) (hR : RM X p w) {sz tx : Nat} {tix : TI} (htx : T tx = some tix) {y : D} {vy : Value} {φ : Prop} {ys : List (List E)}
    (hy : RepD p (CW X p w) w y vy) (h : srcOf p.mem tix.k sz y = some (φ, ys)) (hφ : φ) :
    (∀ cs ∈ ys, cs.length = sz) ∧ (∃ news, Src P sz tx vy ys.length news w ∧ Rep2 p (CW X p w) w (ys.flatten.map .e) news) := by
  obtain ⟨i, d, z, u1, u2, u3, u4, u5, _⟩ := (hT _ _ htx).out
  have hempty : ∀ (A : Option Addr) (cap e' : Nat), P.underlying tx = some (.slice e') → ∃ news, Src P sz tx (.slice A 0 cap) ([] : List (List E)).length news w ∧ Rep2 p (CW X p w) w (([] : List (List E)).flatten.map .e) news := fun A cap e' hke => by
    cases A with
    | none => exact ⟨[], Src.ofNil w hke cap, rfl, fun i x u h => by cases h⟩
    | some a => exact ⟨[], Src.ofSlice w hke a 0 cap [] (by simp) (fun j u h => by cases h) (fun u h => by cases h), rfl, fun i x u h => by cases h⟩
  unfold srcOf at h
  split at h
  · rename_i e' ys' hk
    cases h
    rw [hk] at u5
    have hke : P.underlying tx = some (.slice e') := by rw [u2, show d = .slice e' from u5]
    refine ⟨hφ, ?_⟩
    obtain ⟨A, n, cap, z', b, o, U, rfl, hn, _⟩ := repE_sl hy
    rcases Nat.eq_zero_or_pos n with h0 | h0
    · have hx0 : ys = [] := List.eq_nil_of_length_eq_zero (by omega)
      subst hx0
      subst h0
      exact hempty A cap e' hke
    · obtain ⟨b', o', rfl, hm⟩ := repE_mem (p := p) (fun _ _ _ h => h.1) hy h0
      rw [hn]
      exact memAt_src hm hke (by rw [List.length_map, flatten_len ys hφ, hn])
  · rename_i e' hk
    cases h
    rw [hk] at u5
    obtain rfl : vy = .slice none 0 0 := hy
    exact ⟨fun cs hc => (nomatch hc), hempty none 0 e' (by rw [u2, show d = .slice e' from u5])⟩
  · rename_i e' id ver hk
    rw [hk] at u5
    have hke : P.underlying tx = some (.slice e') := by rw [u2, show d = .slice e' from u5]
    split at h
    · rename_i bv z xs pub hb
      cases hv : (Nat.beq bv ver && Nat.beq z sz) with
      | false => simp [hv] at h
      | true =>
        simp only [hv, cond_true, Option.some.injEq, Prod.mk.injEq] at h
        obtain ⟨rfl, rfl⟩ := h
        simp only [Bool.and_eq_true] at hv
        obtain rfl := Nat.eq_of_beq_eq_true hv.1
        obtain rfl := Nat.eq_of_beq_eq_true hv.2
        obtain ⟨hz0, hz⟩ := row_ok hR hb
        refine ⟨hz, ?_⟩
        obtain ⟨_, blk, h1, h2, h3⟩ := hy
        rw [hb] at h1
        cases h1
        obtain ⟨z', n', q1, q2, q3⟩ := h3 rfl
        simp only [Body.shape, Prod.mk.injEq] at q1
        obtain ⟨rfl, rfl⟩ := q1
        rcases q3 with ⟨q3, A, rfl⟩ | ⟨g, cap, g1, rfl, g3, g4, g5⟩
        · have hx0 : xs = [] := List.eq_nil_of_length_eq_zero q3
          subst hx0
          exact hempty A 0 e' hke
        · exact memAt_src (mem_of hR hb g1) hke (by
            show (xs.flatten.map D0.e).length = _
            rw [List.length_map, flatten_len xs hz])
    · cases h
  · rename_i e' id ver off z n hk
    rw [hk] at u5
    have hke : P.underlying tx = some (.slice e') := by rw [u2, show d = .slice e' from u5]
    split at h
    · rename_i bv cs pub hb
      cases hv : (Nat.beq bv ver && Nat.beq z sz) with
      | false => simp [hv] at h
      | true =>
        simp only [hv, cond_true, Option.some.injEq, Prod.mk.injEq] at h
        obtain ⟨rfl, rfl⟩ := h
        simp only [Bool.and_eq_true] at hv
        obtain rfl := Nat.eq_of_beq_eq_true hv.1
        obtain rfl := Nat.eq_of_beq_eq_true hv.2
        obtain ⟨_, blk, h1, h2, h3⟩ := hy
        rw [hb] at h1
        cases h1
        obtain ⟨z0, z1, g, cap, g1, rfl, g3, g4⟩ := h3 rfl
        simp only [Body.shape, Cs.d0, List.length_map] at z1
        have hfit : n * z ≤ (cs.drop off).length := by rw [List.length_drop]; omega
        refine ⟨chunksE_z hfit, ?_⟩
        rw [chunksE_flat n hfit, chunksE_len]
        exact memAt_src (bsl_mem hR hb g1 off (n * z)) hke (by rw [List.length_map, List.length_take]; omega)
    · cases h
  · rename_i s hk
    rw [hk] at u5
    cases hv : Nat.beq sz 1 with
    | false => simp [hv] at h
    | true =>
      obtain rfl := Nat.eq_of_beq_eq_true hv
      simp only [hv, cond_true, Option.some.injEq, Prod.mk.injEq] at h
      obtain ⟨rfl, rfl⟩ := h
      obtain rfl := repV hy
      refine ⟨fun cs hc => ?_, byteCells s, ?_, strBytes_rep s⟩
      · unfold strBytes at hc
        obtain ⟨b, _, rfl⟩ := List.mem_map.1 hc
        rfl
      · rw [strBytes_len]
        exact Src.ofString w (by rw [u2, show d = .string from u5]) s
  · cases h

/-- what a copy takes out of its source: the first k elements -/
theorem src_first (hT : TOk P T) (hR : RM X p w) {sz tx : Nat} {tix : TI} (htx : T tx = some tix) {y : D} {vy : Value} {φ : Prop} {ys : List (List E)}
    (hy : RepD p (CW X p w) w y vy) (h : srcOf p.mem tix.k sz y = some (φ, ys)) (hφ : φ) :
    (Builtin.lenOf vy).run P w = .ok ys.length w ∧ (∀ cs ∈ ys, cs.length = sz) ∧ ∃ news, Rep2 p (CW X p w) w (ys.flatten.map .e) news ∧ ∀ k, k ≤ ys.length → (Builtin.firstCells sz k vy).run P w = .ok (news.take (k * sz)).toArray w := by
  have hempty : ∀ (A : Option Addr) (cap : Nat), (Builtin.lenOf (.slice A 0 cap)).run P w = .ok 0 w ∧ (∀ cs ∈ ([] : List (List E)), cs.length = sz) ∧ ∃ news, Rep2 p (CW X p w) w (([] : List (List E)).flatten.map .e) news ∧ ∀ k, k ≤ 0 → (Builtin.firstCells sz k (.slice A 0 cap)).run P w = .ok (news.take (k * sz)).toArray w := fun A cap => by
    refine ⟨rfl, fun cs hc => (nomatch hc), [], ⟨rfl, fun i x u h => by cases h⟩, fun k hk => ?_⟩
    obtain rfl : k = 0 := by omega
    rw [Nat.zero_mul]
    cases A with
    | none => rfl
    | some a =>
      have := run_loadCells_list (P := P) w a [] (by simp)
      simp only [Builtin.firstCells, Nat.zero_mul]
      simpa using this
  have hmem : ∀ {xs : List D0} {b o n c : Nat}, MemAt p (CW X p w) w b o xs → xs.length = n * sz → ∃ news, Rep2 p (CW X p w) w xs news ∧ ∀ k, k ≤ n → (Builtin.firstCells sz k (.slice (some ⟨b, o, none⟩) n c)).run P w = .ok (news.take (k * sz)).toArray w := fun {xs b o n c} hm hl => by
    obtain ⟨vs, h1, h2⟩ := hm.list
    refine ⟨vs, h1, fun k hk => ?_⟩
    have hkl : k * sz ≤ n * sz := Nat.mul_le_mul_right _ hk
    have := run_loadCells_list (P := P) w ⟨b, o, none⟩ (vs.take (k * sz)) (fun j u hu => by
      rw [List.getElem?_take] at hu
      split at hu
      · rw [add_at]; exact h2 j u hu
      · cases hu)
    rw [List.length_take, ← h1.1, hl, Nat.min_eq_left hkl] at this
    exact this
  obtain ⟨h0, hsrc, _⟩ := src_goes hT hR htx hy h hφ
  unfold srcOf at h
  split at h
  · rename_i e' ys' hk
    cases h
    obtain ⟨A, n, cap, z', b, o, U, rfl, hn, _⟩ := repE_sl hy
    rcases Nat.eq_zero_or_pos n with h00 | h00
    · have hx0 : ys = [] := List.eq_nil_of_length_eq_zero (by omega)
      subst hx0
      subst h00
      exact hempty A cap
    · obtain ⟨b', o', rfl, hm⟩ := repE_mem (p := p) (fun _ _ _ h => h.1) hy h00
      rw [hn]
      exact ⟨rfl, h0, hmem hm (by rw [List.length_map, flatten_len ys hφ, hn])⟩
  · rename_i e' hk
    cases h
    obtain rfl : vy = .slice none 0 0 := hy
    exact hempty none 0
  · rename_i e' id ver hk
    split at h
    · rename_i bv z xs pub hb
      cases hv : (Nat.beq bv ver && Nat.beq z sz) with
      | false => simp [hv] at h
      | true =>
        simp only [hv, cond_true, Option.some.injEq, Prod.mk.injEq] at h
        obtain ⟨rfl, rfl⟩ := h
        simp only [Bool.and_eq_true] at hv
        obtain rfl := Nat.eq_of_beq_eq_true hv.1
        obtain rfl := Nat.eq_of_beq_eq_true hv.2
        obtain ⟨_, blk, h1, h2, h3⟩ := hy
        rw [hb] at h1
        cases h1
        obtain ⟨z', n', q1, q2, q3⟩ := h3 rfl
        simp only [Body.shape, Prod.mk.injEq] at q1
        obtain ⟨rfl, rfl⟩ := q1
        rcases q3 with ⟨q3, A, rfl⟩ | ⟨g, cap, g1, rfl, g3, g4, g5⟩
        · have hx0 : xs = [] := List.eq_nil_of_length_eq_zero q3
          subst hx0
          exact hempty A 0
        · exact ⟨rfl, h0, hmem (mem_of hR hb g1) (by
            show (xs.flatten.map D0.e).length = _
            rw [List.length_map, flatten_len xs h0])⟩
    · cases h
  · rename_i e' id ver off z n hk
    split at h
    · rename_i bv cs pub hb
      cases hv : (Nat.beq bv ver && Nat.beq z sz) with
      | false => simp [hv] at h
      | true =>
        simp only [hv, cond_true, Option.some.injEq, Prod.mk.injEq] at h
        obtain ⟨rfl, rfl⟩ := h
        simp only [Bool.and_eq_true] at hv
        obtain rfl := Nat.eq_of_beq_eq_true hv.1
        obtain rfl := Nat.eq_of_beq_eq_true hv.2
        obtain ⟨_, blk, h1, h2, h3⟩ := hy
        rw [hb] at h1
        cases h1
        obtain ⟨z0, z1, g, cap, g1, rfl, g3, g4⟩ := h3 rfl
        simp only [Body.shape, Cs.d0, List.length_map] at z1
        have hfit : n * z ≤ (cs.drop off).length := by rw [List.length_drop]; omega
        rw [chunksE_flat n hfit, chunksE_len]
        exact ⟨rfl, h0, hmem (bsl_mem hR hb g1 off (n * z)) (by rw [List.length_map, List.length_take]; omega)⟩
    · cases h
  · rename_i s hk
    cases hv : Nat.beq sz 1 with
    | false => simp [hv] at h
    | true =>
      obtain rfl := Nat.eq_of_beq_eq_true hv
      simp only [hv, cond_true, Option.some.injEq, Prod.mk.injEq] at h
      obtain ⟨rfl, rfl⟩ := h
      obtain rfl := repV hy
      refine ⟨by rw [strBytes_len]; rfl, h0, byteCells s, strBytes_rep s, fun k hk => ?_⟩
      simp only [Builtin.firstCells, Nat.mul_one]
      unfold byteCells
      show Result.ok _ w = Result.ok _ w
      congr 1
      apply Array.ext'
      rw [strBytes_len] at hk
      simp [List.extract_eq_take_drop]
  · cases h

theorem run_store_own {g o : Nat} {t : TypeId} {lo hi : Nat} : ∀ (vs : List Value) (i : Nat) (cur : Array Value) (w : World), w.heap[g]? = some (.cells cur t (lo, hi)) → (lo < hi → cur.size ≤ lo) → o + i + vs.length ≤ cur.size → (∀ v ∈ vs, v.oneCell' = true) →
    (storeCells ⟨g, o, none⟩ vs i).run P w = .ok () (w.setRow g (cur.toList.take (o + i) ++ vs ++ cur.toList.drop (o + i + vs.length)).toArray)
  | [], i, cur, w, hg, _, _, _ => by
    simp only [storeCells, List.append_nil, List.length_nil, Nat.add_zero, List.take_append_drop, Array.toArray_toList]
    rw [setRow_self w g cur t _ hg]
    rfl
  | v :: rest, i, cur, w, hg, hfz, hl, h1 => by
    have hi' : o + i < cur.size := by simp at hl; omega
    have hcell : w.cell? ⟨g, o + i, none⟩ = some cur[o + i] := by simp [World.cell?, hg, hi']
    have hfro : w.frozen? ⟨g, o + i, none⟩ = false := by
      simp only [World.frozen?, hg, Bool.and_eq_false_iff, decide_eq_false_iff_not]
      by_cases hlh : lo < hi
      · have := hfz hlh; left; omega
      · by_cases h2 : lo ≤ o + i
        · right; omega
        · left; exact h2
    have hst : (store ((⟨g, o, none⟩ : Addr).add i) v).run P w = .ok () (w.setRow g (cur.setIfInBounds (o + i) v)) := by
      rw [add_at, run_store P w _ v _ (h1 v (by simp)), hcell]
      simp [hfro, setCell_eq_setRow w g (o + i) cur t _ v hg]
    have ih := run_store_own (g := g) (o := o) (lo := lo) (hi := hi) (t := t) rest (i + 1) (cur.setIfInBounds (o + i) v) (w.setRow g (cur.setIfInBounds (o + i) v)) (setRow_heap w g cur _ t _ hg) (by simpa using hfz) (by simp at hl ⊢; omega) (fun x hx => h1 x (by simp [hx]))
    simp only [storeCells, Sem.run_bind, hst, Result.andThen_ok, ih, setRow_setRow]
    congr 3
    have e := list_seg_step cur.toList (o + i) v rest (by simp at hl ⊢; omega)
    simpa [Array.toList_setIfInBounds, Nat.add_assoc] using e
end
end Go.Proofs.YtcjeeoimjkhijaaDoor.Ab
