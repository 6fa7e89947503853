/- The quiet operations, all together: each goes as 'effQ' says. No condition. -/
import Derived.Test.YtcjeeoimjkhijaaDoorAb6
namespace Go.Proofs.YtcjeeoimjkhijaaDoor.Ab
open Go Go.RowKit

section
variable {P : Program} {T : Nat → Option TI} {X : Ctx} {p : Rho} {w : World} {C : Nat → Nat → Value → Prop}

theorem liveB_ptr {x : D} (h : liveB p.mem x = true) : (∀ id ver off, x = .one (.ptr id ver off) → ∃ blk, p.mem id = some blk ∧ ver = blk.ver) ∧
    (∀ id ver i j, x = .one (.rptr id ver i j) → ∃ blk, p.mem id = some blk ∧ ver = blk.ver) := by
  refine ⟨fun id ver off e => ?_, fun id ver i j e => ?_⟩ <;>
  · subst e
    simp only [liveB] at h
    split at h
    · rename_i b hb
      exact ⟨b, hb, (Nat.eq_of_beq_eq_true h).symm⟩
    · cases h

theorem lo_goes {lo : Option D} {vlo : Option Value} (hl : ∀ x, lo = some x → ∃ v, vlo = some v ∧ RepD p C w x v) (hn : lo = none → vlo = none) {l : Int} (h : loInt lo = some l) (y : Nat) (code : BoundsCode) (h0 : 0 ≤ l) (h1 : l ≤ y) :
    (match (generalizing := false) vlo with | some v => Instr.sliceBound v y code | none => pure 0 : Sem Nat).run P w = .ok l.toNat w := by
  unfold loInt at h
  split at h
  · cases h; rw [hn rfl]; rfl
  · rename_i k n
    cases h
    obtain ⟨v, rfl, hv⟩ := hl _ rfl
    obtain rfl := repV hv
    simp [Instr.sliceBound, asIntOf, h0, h1]
  · cases h
theorem hi_goes {hi : Option D} {vhi : Option Value} (hl : ∀ x, hi = some x → ∃ v, vhi = some v ∧ RepD p C w x v) (hn : hi = none → vhi = none) {len : Nat} {h' : Int} (h : hiInt hi len = some h') (m : Nat) (code : BoundsCode) (h0 : 0 ≤ h') (h1 : h' ≤ m) :
    (match (generalizing := false) vhi with | some v => Instr.sliceBound v m code | none => pure len : Sem Nat).run P w = .ok h'.toNat w := by
  unfold hiInt at h
  split at h
  · cases h; rw [hn rfl]; rfl
  · rename_i k n
    cases h
    obtain ⟨v, rfl, hv⟩ := hl _ rfl
    obtain rfl := repV hv
    simp [Instr.sliceBound, asIntOf, h0, h1]
  · cases h

theorem bounds_goes {lo hi : Option D} {vlo vhi : Option Value} (hl : ∀ x, lo = some x → ∃ v, vlo = some v ∧ RepD p C w x v) (hln : lo = none → vlo = none) (hh : ∀ x, hi = some x → ∃ v, vhi = some v ∧ RepD p C w x v) (hhn : hi = none → vhi = none)
    {len cap : Nat} {l h : Int} (h1 : loInt lo = some l) (h2 : hiInt hi len = some h) (h0 : 0 ≤ l) (hlh : l ≤ h) (hcap : h ≤ cap) (sl : Bool) :
    (Instr.sliceBounds sl len cap vlo vhi none).run P w = .ok (l.toNat, h.toNat, cap) w := by
  have a1 := lo_goes (P := P) hl hln h1 h.toNat .sliceB h0 (by omega)
  have a2 := hi_goes (P := P) hh hhn h2 cap (if sl then .sliceAcap else .sliceAlen) (by omega) hcap
  unfold Instr.sliceBounds
  cases vhi with
  | none =>
    cases vlo with
    | none => simp at a1 a2; simp [a1, a2]
    | some v => simp at a1 a2; simp [a1, a2]
  | some u =>
    cases vlo with
    | none => simp at a1 a2; simp [a1, a2]
    | some v => simp at a1 a2; simp [a1, a2]

theorem slice_goes (hT : TOk P T) {t : Nat} {dx d : D} {vx : Value} {lo hi : Option D} {vlo vhi : Option Value} {φ : Prop} (hx : RepD p C w dx vx) (hl : ∀ x, lo = some x → ∃ v, vlo = some v ∧ RepD p C w x v) (hln : lo = none → vlo = none) (hh : ∀ x, hi = some x → ∃ v, vhi = some v ∧ RepD p C w x v) (hhn : hi = none → vhi = none)
    (h : effSlice T t dx lo hi = some (φ, d)) (hφ : φ) :
    ∃ v, (Instr.sliceAt t vx vlo vhi none).run P w = .ok v w ∧ RepD p C w d v := by
  unfold effSlice at h
  split at h
  · rename_i a b z s ht
    have hu := str_of hT ht
    obtain rfl := repV hx
    split at h
    · rename_i l h' e1 e2
      cases h
      have hb := bounds_goes (P := P) hl hln hh hhn e1 e2 hφ.1 hφ.2.1 hφ.2.2 false
      exact ⟨_, by simp [Instr.sliceAt, Instr.slice, run_underlying hu, hb], repV_mk rfl⟩
    · cases h
  · rename_i a b e z xs ht
    have hu := slice_of hT ht
    split at h
    · rename_i ti l h' hti e1 e2
      cases h
      obtain ⟨A, m, cap, z', b', o, U, rfl, hn, hc, hm, hA, hz, hC, hr⟩ := repE_sl hx
      obtain ⟨f1, f2, f3, f4⟩ := hφ
      rw [hn] at e2
      have hb := bounds_goes (P := P) (cap := cap) hl hln hh hhn e1 e2 f1 f2 (by omega) true
      have hsz := (hT _ _ hti).size w
      refine ⟨.slice (if cap = l.toNat then A else A.map (·.add (l.toNat * ti.size))) (h'.toNat - l.toNat) (cap - l.toNat), by simp [Instr.sliceAt, Instr.slice, run_underlying hu, hb, hsz], ?_⟩
      have hlen : ((xs.drop l.toNat).take (h'.toNat - l.toNat)).length = h'.toNat - l.toNat := by
        rw [List.length_take, List.length_drop]; omega
      refine RepE.sl _ _ _ ti.size b' (o + l.toNat * ti.size) (fun i j => U (l.toNat + i) j) _ hlen (by omega) (by omega) (fun hpos => ?_) (fun cs hcs => f4 cs (List.mem_of_mem_drop (List.mem_of_mem_take hcs))) (fun i cs j e hi hj => ?_) (fun i cs j e hi hj => ?_)
      · rw [if_neg (by omega), hA (by omega)]
        simp [add_at]
      · rw [List.getElem?_take] at hi
        split at hi
        · rw [List.getElem?_drop] at hi
          have h1 := hC _ _ _ _ hi hj
          have hz1 : z' = ti.size := by rw [← hz _ (List.mem_of_getElem? hi), f4 _ (List.mem_of_getElem? hi)]
          rw [hz1, Nat.add_mul] at h1
          rw [show o + l.toNat * ti.size + i * ti.size + j = o + (l.toNat * ti.size + i * ti.size) + j by omega]
          exact h1
        · cases hi
      · rw [List.getElem?_take] at hi
        split at hi
        · rw [List.getElem?_drop] at hi
          exact hr _ _ _ _ hi hj
        · cases hi
    · cases h
  · rename_i a b len e z cs ht
    have hu := arr_of hT ht
    split at h
    · rename_i ti l h' hti e1 e2
      cases h
      obtain ⟨b', o, rfl, hc⟩ := hx
      obtain ⟨f1, f2, f3, f4, f5, f6⟩ := hφ
      have hb := bounds_goes (P := P) hl hln hh hhn e1 e2 f1 f3 f4 false
      have hsz := (hT _ _ hti).size w
      have hne : len ≠ l.toNat := by omega
      have hch : ∀ k, ∃ u, ∀ e, cs[k]? = some e → C b' (o + k) u ∧ RepE C e u := by
        intro k
        cases hk : cs[k]? with
        | none => exact ⟨undef, fun _ h => nomatch h⟩
        | some e =>
          obtain ⟨u, h1, h2⟩ := hc k e hk
          exact ⟨u, fun e' he => by cases he; exact ⟨h1, h2⟩⟩
      obtain ⟨g, hg⟩ := Classical.axiomOfChoice hch
      have hlz : l.toNat * ti.size + (h'.toNat - l.toNat) * ti.size = h'.toNat * ti.size := by rw [← Nat.add_mul]; congr 1; omega
      have hget : ∀ i xs, (chunksE ti.size (h'.toNat - l.toNat) (cs.drop (l.toNat * ti.size)))[i]? = some xs → i < h'.toNat - l.toNat ∧ xs = ((cs.drop (l.toNat * ti.size)).drop (i * ti.size)).take ti.size := by
        intro i xs hi
        unfold chunksE at hi
        rw [List.getElem?_map, Option.map_eq_some_iff] at hi
        obtain ⟨k, hk, rfl⟩ := hi
        obtain ⟨hk1, hk2⟩ := List.getElem?_eq_some_iff.1 hk
        rw [List.getElem_range] at hk2
        subst hk2
        exact ⟨by simpa using hk1, rfl⟩
      refine ⟨.slice (some ⟨b', o + l.toNat * ti.size, none⟩) (h'.toNat - l.toNat) (len - l.toNat), by simp [Instr.sliceAt, run_underlying hu, Instr.sureAddr, hb, hsz, hne, add_at], ?_⟩
      refine RepE.sl _ _ _ ti.size b' (o + l.toNat * ti.size) (fun i j => g (l.toNat * ti.size + (i * ti.size + j))) _ (by simp [chunksE]) (by omega) (by simp only [maxLen]; omega) (fun _ => rfl) (fun xs hxs => ?_) (fun i xs j e hi hj => ?_) (fun i xs j e hi hj => ?_)
      · obtain ⟨i, hi⟩ := List.getElem?_of_mem hxs
        obtain ⟨h1, rfl⟩ := hget i xs hi
        have h2 : (i + 1) * ti.size ≤ (h'.toNat - l.toNat) * ti.size := Nat.mul_le_mul_right _ (by omega)
        rw [Nat.add_mul, Nat.one_mul] at h2
        rw [List.length_take, List.length_drop, List.length_drop]
        omega
      · obtain ⟨h1, rfl⟩ := hget i xs hi
        rw [List.getElem?_take] at hj
        split at hj
        · rw [List.getElem?_drop, List.getElem?_drop] at hj
          have := (hg _ e hj).1
          rw [← Nat.add_assoc] at this
          rw [Nat.add_assoc (o + _)]
          exact this
        · cases hj
      · obtain ⟨h1, rfl⟩ := hget i xs hi
        rw [List.getElem?_take] at hj
        split at hj
        · rw [List.getElem?_drop, List.getElem?_drop] at hj
          exact (hg _ e hj).2
        · cases hj
    · cases h
  · cases h

theorem bounds3_goes {lo : Option D} {hi mx : D} {vlo : Option Value} {vhi vmx : Value} (hl : ∀ x, lo = some x → ∃ v, vlo = some v ∧ RepD p C w x v) (hln : lo = none → vlo = none) (hh : RepD p C w hi vhi) (hm : RepD p C w mx vmx)
    {len cap : Nat} {l h k : Int} (h1 : loInt lo = some l) (h2 : loInt (some hi) = some h) (h3 : loInt (some mx) = some k) (h0 : 0 ≤ l) (hlh : l ≤ h) (hhk : h ≤ k) (hcap : k ≤ cap) :
    (Instr.sliceBounds true len cap vlo (some vhi) (some vmx)).run P w = .ok (l.toNat, h.toNat, k.toNat) w := by
  have a1 := lo_goes (P := P) hl hln h1 h.toNat .slice3C h0 (by omega)
  have a2 := lo_goes (P := P) (lo := some hi) (vlo := some vhi) (fun x hx => ⟨vhi, rfl, by cases hx; exact hh⟩) (fun hx => nomatch hx) h2 k.toNat .slice3B (by omega) (by omega)
  have a3 := lo_goes (P := P) (lo := some mx) (vlo := some vmx) (fun x hx => ⟨vmx, rfl, by cases hx; exact hm⟩) (fun hx => nomatch hx) h3 cap .slice3Acap (by omega) (by omega)
  unfold Instr.sliceBounds
  cases vlo with
  | none => simp at a1 a2 a3; simp [a1, a2, a3]
  | some v => simp at a1 a2 a3; simp [a1, a2, a3]
theorem slice3_goes (hT : TOk P T) {t : Nat} {dx d : D} {vx : Value} {lo : Option D} {hi mx : D} {vlo : Option Value} {vhi vmx : Value} {φ : Prop} (hx : RepD p C w dx vx) (hl : ∀ x, lo = some x → ∃ v, vlo = some v ∧ RepD p C w x v) (hln : lo = none → vlo = none) (hh : RepD p C w hi vhi) (hm : RepD p C w mx vmx)
    (h : effSlice3 T t dx lo hi mx = some (φ, d)) (hφ : φ) :
    ∃ v, (Instr.sliceAt t vx vlo (some vhi) (some vmx)).run P w = .ok v w ∧ RepD p C w d v := by
  unfold effSlice3 at h
  split at h
  · rename_i a b e z xs ht
    have hu := slice_of hT ht
    split at h
    · rename_i ti l h' k hti e1 e2 e3
      cases h
      obtain ⟨A, m, cap, z', b', o, U, rfl, hn, hc, hmx, hA, hz, hC, hr⟩ := repE_sl hx
      obtain ⟨f1, f2, f3, f5, f4⟩ := hφ
      have hb := bounds3_goes (P := P) (len := m) (cap := cap) hl hln hh hm e1 e2 e3 f1 f2 f3 (by omega)
      have hsz := (hT _ _ hti).size w
      refine ⟨.slice (if k.toNat = l.toNat then A else A.map (·.add (l.toNat * ti.size))) (h'.toNat - l.toNat) (k.toNat - l.toNat), by simp [Instr.sliceAt, Instr.slice, run_underlying hu, hb, hsz], ?_⟩
      have hlen : ((xs.drop l.toNat).take (h'.toNat - l.toNat)).length = h'.toNat - l.toNat := by
        rw [List.length_take, List.length_drop]; omega
      refine RepE.sl _ _ _ ti.size b' (o + l.toNat * ti.size) (fun i j => U (l.toNat + i) j) _ hlen (by omega) (by omega) (fun hpos => ?_) (fun cs hcs => f4 cs (List.mem_of_mem_drop (List.mem_of_mem_take hcs))) (fun i cs j e hi hj => ?_) (fun i cs j e hi hj => ?_)
      · rw [if_neg (by omega), hA (by omega)]
        simp [add_at]
      · rw [List.getElem?_take] at hi
        split at hi
        · rw [List.getElem?_drop] at hi
          have h1 := hC _ _ _ _ hi hj
          have hz1 : z' = ti.size := by rw [← hz _ (List.mem_of_getElem? hi), f4 _ (List.mem_of_getElem? hi)]
          rw [hz1, Nat.add_mul] at h1
          rw [show o + l.toNat * ti.size + i * ti.size + j = o + (l.toNat * ti.size + i * ti.size) + j by omega]
          exact h1
        · cases hi
      · rw [List.getElem?_take] at hi
        split at hi
        · rw [List.getElem?_drop] at hi
          exact hr _ _ _ _ hi hj
        · cases hi
    · cases h
  · cases h

theorem extract_goes {dx d : D} {vx : Value} {i : Nat} {φ : Prop} (hx : RepD p C w dx vx) (h : effExtract dx i = some (φ, d)) (hφ : φ) : ∃ v, (Instr.extract vx i).run P w = .ok v w ∧ RepD p C w d v := by
  unfold effExtract at h
  split at h
  · rename_i xs
    obtain ⟨vs, rfl, hl, hr⟩ := hx
    have key : ∀ y, xs[i]? = some y → ∃ u, vs[i]? = some u ∧ RepT p C w y u := fun y hy => by
      have : i < vs.length := by rw [← hl]; exact (List.getElem?_eq_some_iff.1 hy).1
      exact ⟨vs[i], List.getElem?_eq_getElem this, hr i y _ hy (List.getElem?_eq_getElem this)⟩
    split at h
    · rename_i c hc
      cases h
      obtain ⟨u, h1, h2⟩ := key _ hc
      obtain ⟨us, rfl, h3⟩ := h2
      exact ⟨_, by simp [Instr.extract, h1], us, rfl, h3⟩
    · rename_i c hc
      cases h
      obtain ⟨u, h1, h2⟩ := key _ hc
      refine ⟨u, by simp [Instr.extract, h1], ?_⟩
      have h2 : Rep2 p C w c.d0 [u] := h2
      exact h2.2 0 _ _ (Cs.at_eq (by omega)) rfl
    · cases h
  · cases h

theorem pick_goes {dc dx dy d : D} {vc vx vy : Value} {φ : Prop} (hc : RepD p C w dc vc) (hx : RepD p C w dx vx) (hy : RepD p C w dy vy) (h : effPick dc dx dy = some (φ, d)) :
    ∃ b, vc = .bool b ∧ RepD p C w d (if b then vx else vy) := by
  unfold effPick at h
  split at h
  · rename_i c x y
    cases h
    obtain rfl := repV hc
    obtain rfl := repV hx
    obtain rfl := repV hy
    exact ⟨c, rfl, by cases c <;> exact repV_mk rfl⟩
  · cases h

theorem minmax_goes {mn : Bool} {dx dy d : D} {vx vy : Value} {φ : Prop} (hx : RepD p C w dx vx) (hy : RepD p C w dy vy) (h : effMinMax mn dx dy = some (φ, d)) (ts : Array TypeId) (ty : TypeId) :
    ∃ v, (if mn then Builtin.min_ ts ty #[vx, vy] else Builtin.max_ ts ty #[vx, vy]).run P w = .ok v w ∧ RepD p C w d v := by
  unfold effMinMax at h
  split at h
  · rename_i k a k' b
    cases h
    obtain rfl := repV hx
    obtain rfl := repV hy
    cases mn with
    | true => exact ⟨.int k (if b < a then b else a), by simp [Builtin.min_, Builtin.min2], repV_mk rfl⟩
    | false => exact ⟨.int k (if a < b then b else a), by simp [Builtin.max_, Builtin.max2], repV_mk rfl⟩
  · cases h

theorem foldl_push : ∀ (ns : List Int) (r : ByteArray), ns.foldl (fun r n => r.push (UInt8.ofNat n.toNat)) r = ⟨r.data ++ (ns.map fun n => UInt8.ofNat n.toNat).toArray⟩
  | [], r => by cases r; simp
  | n :: ns, r => by
    rw [List.foldl_cons, foldl_push ns]
    cases r
    simp [ByteArray.push]

theorem bytes_run {b o c : Nat} {xs : List (List E)} (h : ∀ (i : Nat) cs, xs[i]? = some cs → isByte cs ∧ w.cell? ⟨b, o + i, none⟩ = some (.int .u8 (cs.getD 0 E.dflt).int)) :
    (Conv.bytesToString (.slice (some ⟨b, o, none⟩) xs.length c)).run P w = .ok (.string (bytesOf xs)) w := by
  have hl := run_loadCells_list (P := P) w ⟨b, o, none⟩ ((xs.map fun cs => (cs.getD 0 E.dflt).int).map (Value.int .u8)) (fun j v hv => by
    rw [add_at]
    simp only [List.getElem?_map, Option.map_eq_some_iff] at hv
    obtain ⟨_, ⟨cs, h1, rfl⟩, rfl⟩ := hv
    exact (h j cs h1).2)
  simp only [List.length_map] at hl
  rw [run_bytesToString (P := P) w _ _ c _ hl, foldl_push]
  congr 2
  unfold bytesOf
  congr 1
  simp

theorem isByte_cell {cs : List E} (h : isByte cs) {u : Value} (hr : ∀ e, cs[0]? = some e → RepE C e u) : u = .int .u8 (cs.getD 0 E.dflt).int := by
  obtain ⟨b, rfl⟩ := h
  have := hr _ rfl
  cases this
  rfl

theorem bytesOf_run {A : Option Addr} {n c : Nat} {xs : List (List E)} (hx : RepE C (.sl xs) (.slice A n c)) (hC : ∀ b o u, C b o u → w.cell? ⟨b, o, none⟩ = some u) (hb : ∀ cs ∈ xs, isByte cs) :
    (Conv.bytesToString (.slice A n c)).run P w = .ok (.string (bytesOf xs)) w := by
  obtain ⟨A', m, cap, z, b, o, U, he, hn, hc, hm, hA, hz, hC', hr⟩ := repE_sl hx
  cases he
  rcases Nat.eq_zero_or_pos n with h0 | h0
  · have hx0 : xs = [] := List.eq_nil_of_length_eq_zero (by omega)
    subst hx0
    subst h0
    cases A with
    | none => rfl
    | some a =>
      have := run_bytesToString (P := P) w a 0 c [] (by simp [loadCells, loadCellsFrom])
      exact this
  · rw [hA h0, ← hn]
    refine bytes_run fun i cs hi => ?_
    have hcs := hb cs (List.mem_of_getElem? hi)
    obtain ⟨b', rfl⟩ := hcs
    have h1 := hC' i _ 0 _ hi rfl
    have hz1 : z = 1 := (hz _ (List.mem_of_getElem? hi)).symm
    rw [hz1, Nat.mul_one, Nat.add_zero] at h1
    refine ⟨⟨b', rfl⟩, ?_⟩
    rw [hC _ _ _ h1, isByte_cell (C := C) (u := U i 0) ⟨b', rfl⟩ (fun e he => by
      have := hr i _ 0 e hi he
      exact this)]

theorem conv_goes (hT : TOk P T) (hR : RM X p w) {s dt : Nat} {dx d : D} {vx : Value} {φ : Prop} (hx : RepD p (CW X p w) w dx vx) (h : effConv T p.mem s dt dx = some (φ, d)) (hφ : φ) :
    ∃ v, (convert s dt vx).run P w = .ok v w ∧ RepD p (CW X p w) w d v := by
  unfold effConv at h
  split at h
  · rename_i ts a b k z k' n hs hd
    obtain rfl := repV hx
    cases h
    have hu := int_of hT hd
    obtain ⟨i, dd, z, h1, h2, _⟩ := (hT _ _ hs).out
    refine ⟨.int k (k.wrap n), ?_, repV_mk rfl⟩
    simp only [convert, Sem.run_bind, run_underlying h2, run_underlying hu, Result.andThen_ok]
    cases dd <;> rfl
  · rename_i ts a b z str hs hd
    obtain rfl := repV hx
    cases h
    have hu := str_of hT hd
    obtain ⟨i, dd, z, h1, h2, _⟩ := (hT _ _ hs).out
    refine ⟨.string str, ?_, repV_mk rfl⟩
    simp only [convert, Sem.run_bind, run_underlying h2, run_underlying hu, Result.andThen_ok]
    cases dd <;> rfl
  · rename_i a b e z a' b' z' y hs hd
    have hu := str_of hT hd
    have hus := slice_of hT hs
    split at h
    · rename_i a b z xs hte
      have hue := int_of hT hte
      cases h
      obtain ⟨A, m, cap, z, b, o, U, rfl, hn, _⟩ := repE_sl hx
      refine ⟨_, ?_, repV_mk rfl⟩
      rw [run_convert_bytes_string w s dt _ _ _ _ hus hue hu]
      exact bytesOf_run hx (fun _ _ _ h => h.1) hφ
    · rename_i a b z hte
      have hue := int_of hT hte
      cases h
      obtain rfl : vx = .slice none 0 0 := hx
      refine ⟨_, ?_, repV_mk rfl⟩
      rw [run_convert_bytes_string w s dt _ _ _ _ hus hue hu]
      rfl
    · rename_i a b z id ver hte
      have hue := int_of hT hte
      split at h
      · rename_i bv z xs pub hb
        cases hv : Nat.beq bv ver with
        | false => simp [hv] at h
        | true =>
          obtain rfl := Nat.eq_of_beq_eq_true hv
          simp only [hv, cond_true, Option.some.injEq, Prod.mk.injEq] at h
          obtain ⟨rfl, rfl⟩ := h
          obtain ⟨_, blk, h1, h2, h3⟩ := hx
          rw [hb] at h1
          cases h1
          obtain ⟨z', n', q1, q2, q3⟩ := h3 rfl
          simp only [Body.shape, Prod.mk.injEq] at q1
          obtain ⟨rfl, rfl⟩ := q1
          have hempty : ∀ A : Option Addr, xs = [] → (Conv.bytesToString (.slice A 0 0)).run P w = .ok (.string (bytesOf [])) w := fun A _ => by
            cases A with
            | none => rfl
            | some a => exact run_bytesToString (P := P) w a 0 0 [] (by simp [loadCells, loadCellsFrom])
          rcases q3 with ⟨q3, A, rfl⟩ | ⟨g, cap, g1, rfl, g3, g4, g5⟩
          · have hx0 : xs = [] := List.eq_nil_of_length_eq_zero q3
            subst hx0
            refine ⟨_, ?_, repV_mk rfl⟩
            rw [run_convert_bytes_string w s dt _ _ _ _ hus hue hu]
            exact hempty A rfl
          · refine ⟨_, ?_, repV_mk rfl⟩
            rw [run_convert_bytes_string w s dt _ _ _ _ hus hue hu]
            refine bytes_run fun i cs hi => ?_
            have hcs := hφ cs (List.mem_of_getElem? hi)
            have hm := mem_row hR hb g1 i
            have hgd : xs.getD i [] = cs := by simp [List.getD_eq_getElem?_getD, hi]
            rw [hgd] at hm
            obtain ⟨b', rfl⟩ := hcs
            have hz1 : z = 1 := by
              have hok := hR.blk id _ hb
              simp only [BlkOk, g1] at hok
              exact (hok.1.2 _ (List.mem_of_getElem? hi)).symm
            obtain ⟨u, u1, u2⟩ := hm 0 _ rfl
            refine ⟨⟨b', rfl⟩, ?_⟩
            rw [hz1, Nat.mul_one, Nat.add_zero] at u1
            rw [Nat.zero_add, u1, isByte_cell (C := CW X p w) (u := u) ⟨b', rfl⟩ (fun e he => by
              cases he
              exact u2)]
      · cases h
    · rename_i a b z id ver off z1 n hte
      have hue := int_of hT hte
      split at h
      · rename_i bv cs pub hb
        cases hv : (Nat.beq bv ver && Nat.beq z1 1) with
        | false => simp [hv] at h
        | true =>
          simp only [hv, cond_true, Option.some.injEq, Prod.mk.injEq] at h
          obtain ⟨rfl, rfl⟩ := h
          simp only [Bool.and_eq_true] at hv
          obtain rfl := Nat.eq_of_beq_eq_true hv.1
          obtain rfl := Nat.eq_of_beq_eq_true hv.2
          obtain ⟨_, blk, h1, h2, h3⟩ := hx
          rw [hb] at h1
          cases h1
          obtain ⟨_, _, g, cap, g1, rfl, _⟩ := h3 rfl
          refine ⟨_, ?_, repV_mk rfl⟩
          rw [run_convert_bytes_string w s dt _ _ _ _ hus hue hu]
          have hbr := bytes_run (P := P) (w := w) (b := g) (o := off) (c := cap) (xs := chunksE 1 n (cs.drop off)) fun i ch hi => by
            have hcs := hφ ch (List.mem_of_getElem? hi)
            obtain ⟨hin, he⟩ := chunksE_get hi
            rw [Nat.mul_one] at he
            obtain ⟨b', hb'⟩ := hcs
            have hm := bsl_mem hR hb g1 (off + i) 1
            rw [← List.drop_drop, ← he, hb'] at hm
            obtain ⟨u, u1, u2⟩ := hm 0 _ rfl
            refine ⟨⟨b', hb'⟩, ?_⟩
            rw [Nat.add_zero] at u1
            rw [u1, isByte_cell (C := CW X p w) (u := u) ⟨b', hb'⟩ (fun e he => by
              rw [hb'] at he
              cases he
              exact u2)]
          rw [chunksE_len] at hbr
          exact hbr
      · cases h
    · cases h
  · cases h

theorem effQ_sound (hT : TOk P T) (hR : RM X p w) {o : Oper} {ev : Ev} {ρ : Operand → Value} (hρ : ∀ x ∈ o.op.operands, RepD p (CW X p w) w (ev x) (ρ x)) {φ : Prop} {d : D} (h : effQ T p.mem o.op ev = some (φ, d)) (hφ : φ) :
    ∃ v, (execOp ρ o).run P w = .ok (.value v) w ∧ RepD p (CW X p w) w d v := by
  obtain ⟨dst, op, type, pos, after, guard⟩ := o
  dsimp only at h hρ
  unfold effQ at h
  split at h
  · cases h; exact ⟨_, rfl, hρ _ (by simp [Op.operands])⟩
  · cases h; exact ⟨_, rfl, hρ _ (by simp [Op.operands])⟩
  · rename_i c a b
    obtain ⟨t, h1, h2⟩ := pick_goes (hρ c (by simp [Op.operands])) (hρ a (by simp [Op.operands])) (hρ b (by simp [Op.operands])) h
    exact ⟨_, by simp only [execOp, h1, asBool]; rfl, h2⟩
  · rename_i op t x y yt
    obtain ⟨v, h1, h2⟩ := bin_goes hT (hρ x (by simp [Op.operands])) (hρ y (by simp [Op.operands])) h hφ
    exact ⟨v, by simp only [execOp, Sem.run_bind, h1 x y] ; rfl, h2⟩
  · rename_i op t x
    obtain ⟨v, h1, h2⟩ := un_goes (P := P) (hρ x (by simp [Op.operands])) h
    exact ⟨v, by simp only [execOp, Sem.run_bind, h1]; rfl, h2⟩
  · rename_i s dt x
    obtain ⟨v, h1, h2⟩ := conv_goes hT hR (hρ x (by simp [Op.operands])) h hφ
    exact ⟨v, by simp only [execOp, Sem.run_bind, h1]; rfl, h2⟩
  · rename_i t x
    split at h
    · rename_i ti ht
      obtain ⟨v, h1, h2⟩ := loadE_goes hT hR ht (hρ x (by simp [Op.operands])) h hφ
      exact ⟨v, by simp only [execOp, Sem.run_bind, h1]; rfl, h2⟩
    · cases h
  · rename_i x
    have hx := hρ x (by simp [Op.operands])
    split at h
    · rename_i id ver off he
      cases hl : liveB p.mem (.one (.ptr id ver off)) with
      | false => simp [hl] at h
      | true =>
        simp only [hl, cond_true, Option.some.injEq, Prod.mk.injEq] at h
        obtain ⟨rfl, rfl⟩ := h
        rw [he] at hx
        have hx' := hx
        obtain ⟨_, blk, h1, h2, h3⟩ := hx
        obtain ⟨blk', k1, k2⟩ := (liveB_ptr hl).1 _ _ _ rfl
        rw [h1] at k1
        cases k1
        obtain ⟨g, hg, hv⟩ := h3 k2
        exact ⟨ρ x, by simp only [execOp, hv]; rfl, hx'⟩
    · rename_i cs he
      cases h
      rw [he] at hx
      have hx' := hx
      obtain ⟨b, o, hv, _⟩ := hx
      exact ⟨ρ x, by simp only [execOp, hv]; rfl, hx'⟩
    · cases h
  · rename_i s x f
    cases hl : liveB p.mem (ev x) with
    | false => simp [hl] at h
    | true =>
      simp only [hl, cond_true] at h
      obtain ⟨v, h1, h2⟩ := field_goes hT (hρ x (by simp [Op.operands])) h (liveB_ptr hl).1 (liveB_ptr hl).2
      exact ⟨v, by simp only [execOp, Sem.run_bind, h1]; rfl, h2⟩
  · rename_i s x f
    obtain ⟨v, h1, h2⟩ := fieldV_goes hT (hρ x (by simp [Op.operands])) h hφ
    exact ⟨v, by simp only [execOp, Sem.run_bind, h1]; rfl, h2⟩
  · rename_i t x i
    cases hl : liveB p.mem (ev x) with
    | false => simp [hl] at h
    | true =>
      simp only [hl, cond_true] at h
      obtain ⟨v, h1, h2⟩ := indexA_goes hT (hρ x (by simp [Op.operands])) (hρ i (by simp [Op.operands])) h hφ (liveB_ptr hl).1 (liveB_ptr hl).2
      exact ⟨v, by simp only [execOp, Sem.run_bind, h1]; rfl, h2⟩
  · rename_i t x i
    obtain ⟨v, h1, h2⟩ := indexV_goes hT (hρ x (by simp [Op.operands])) (hρ i (by simp [Op.operands])) h hφ
    exact ⟨v, by simp only [execOp, Sem.run_bind, h1]; rfl, h2⟩
  · rename_i t x lo hi
    obtain ⟨v, h1, h2⟩ := slice_goes (P := P) (vlo := lo.map ρ) (vhi := hi.map ρ) hT (hρ x (by simp [Op.operands])) (fun y hy => by
        obtain ⟨z, rfl, rfl⟩ := Option.map_eq_some_iff.1 hy
        exact ⟨_, rfl, hρ z (by simp [Op.operands])⟩) (fun hn => by simp at hn; simp [hn]) (fun y hy => by
        obtain ⟨z, rfl, rfl⟩ := Option.map_eq_some_iff.1 hy
        exact ⟨_, rfl, hρ z (by simp [Op.operands])⟩) (fun hn => by simp at hn; simp [hn]) h hφ
    exact ⟨v, by simp only [execOp, Sem.run_bind, Option.map_none, h1]; rfl, h2⟩
  · rename_i t x lo hi mx
    obtain ⟨v, h1, h2⟩ := slice3_goes (P := P) (vlo := lo.map ρ) (vhi := ρ hi) (vmx := ρ mx) hT (hρ x (by simp [Op.operands])) (fun y hy => by
        obtain ⟨z, rfl, rfl⟩ := Option.map_eq_some_iff.1 hy
        exact ⟨_, rfl, hρ z (by simp [Op.operands])⟩) (fun hn => by simp at hn; simp [hn]) (hρ hi (by simp [Op.operands])) (hρ mx (by simp [Op.operands])) h hφ
    exact ⟨v, by simp only [execOp, Sem.run_bind, Option.map_some, h1]; rfl, h2⟩
  · rename_i x i
    obtain ⟨v, h1, h2⟩ := extract_goes (P := P) (hρ x (by simp [Op.operands])) h hφ
    exact ⟨v, by simp only [execOp, Sem.run_bind, h1]; rfl, h2⟩
  · rename_i args ts
    split at h
    · rename_i x t ha ht
      obtain rfl : args = #[x] := by rw [← Array.toArray_toList (xs := args), ha]
      obtain rfl : ts = #[t] := by rw [← Array.toArray_toList (xs := ts), ht]
      obtain ⟨v, h1, h2⟩ := len_goes (P := P) hT (hρ x (by simp [Op.operands, Call.operands])) h type
      exact ⟨v, by simp [execOp, resolve, invoke, builtin, h1], h2⟩
    · cases h
  · rename_i args ts
    split at h
    · rename_i x y ha
      obtain rfl : args = #[x, y] := by rw [← Array.toArray_toList (xs := args), ha]
      obtain ⟨v, h1, h2⟩ := minmax_goes (P := P) (hρ x (by simp [Op.operands, Call.operands])) (hρ y (by simp [Op.operands, Call.operands])) h ts type
      simp only [if_true] at h1
      exact ⟨v, by simp [execOp, resolve, invoke, builtin, h1], h2⟩
    · cases h
  · rename_i args ts
    split at h
    · rename_i x y ha
      obtain rfl : args = #[x, y] := by rw [← Array.toArray_toList (xs := args), ha]
      obtain ⟨v, h1, h2⟩ := minmax_goes (P := P) (hρ x (by simp [Op.operands, Call.operands])) (hρ y (by simp [Op.operands, Call.operands])) h ts type
      simp only [Bool.false_eq_true, if_false] at h1
      exact ⟨v, by simp [execOp, resolve, invoke, builtin, h1], h2⟩
    · cases h
  · cases h
end
end Go.Proofs.YtcjeeoimjkhijaaDoor.Ab
