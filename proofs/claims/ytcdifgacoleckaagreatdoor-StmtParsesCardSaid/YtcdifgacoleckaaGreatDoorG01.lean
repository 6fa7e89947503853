/- Part of the proof: steps of the program over abstract states. No condition. -/
import Derived.Test.YtcdifgacoleckaaGreatDoorG00
import Derived.MapKept
import Derived.Deep.AppendSrc
import Derived.Laws.AppendOwn
import Derived.Laws.Tables
import Derived.Great.FillDense
set_option linter.unusedVariables false
set_option linter.unusedSimpArgs false
namespace Go.Proofs.YtcdifgacoleckaaGreatDoor.Ab
open Go Go.RowKit Go.MapKept
section
variable {P : Program} {T : Nat -> Option TI} {X : Ctx} {p : Rho} {w : World} {C : Nat -> Nat -> Value -> Prop}
theorem zIn {x : D} {v : Value} (h : zAy p C w x v) : zAy p C w x.ptn v := by
 unfold D.ptn
 split
 ·rename_i cs
  cases h with
  | pt b o U _ hC hr => exact ⟨b, o, rfl, fun j e he => ⟨U j, hC j e he, hr j e he⟩⟩
 ·exact h
theorem zD2 {x : D} (h : zFz p.mem x = true) : (∀ id ver off, x = .one (.ptr id ver off) -> ∃ blk, p.mem id = some blk /\ ver = blk.ver) ∧
  (∀ id ver i j, x = .one (.rptr id ver i j) -> ∃ blk, p.mem id = some blk /\ ver = blk.ver) := by
 refine ⟨fun id ver off e => ?_, fun id ver i j e => ?_⟩ <;>
 ·subst e
  simp only [zFz] at h
  split at h
  ·rename_i b hb
   exact ⟨b, hb, (Nat.eq_of_beq_eq_true h).symm⟩
  ·cases h
theorem zIu {lo : Option D} {vlo : Option Value} (hl : ∀ x, lo = some x -> ∃ v, vlo = some v /\ zAy p C w x v) (hn : lo = none -> vlo = none) {l : Int} (h : zFy lo = some l) (y : Nat) (code : BoundsCode) (h0 : 0 <= l) (h1 : l <= y) :
  (match (generalizing := false) vlo with | some v => Instr.sliceBound v y code | none => pure 0 : Sem Nat).run P w = .ok l.toNat w := by
 unfold zFy at h
 split at h
 ·cases h; rw [hn rfl]; rfl
 ·rename_i k n
  cases h
  obtain ⟨v, rfl, hv⟩ := hl _ rfl
  obtain rfl := zCu hv
  simp [Instr.sliceBound, asIntOf, h0, h1]
 ·cases h
theorem zSO {hi : Option D} {vhi : Option Value} (hl : ∀ x, hi = some x -> ∃ v, vhi = some v /\ zAy p C w x v) (hn : hi = none -> vhi = none) {len : Nat} {h' : Int} (h : zLb hi len = some h') (m : Nat) (code : BoundsCode) (h0 : 0 <= h') (h1 : h' <= m) :
  (match (generalizing := false) vhi with | some v => Instr.sliceBound v m code | none => pure len : Sem Nat).run P w = .ok h'.toNat w := by
 unfold zLb at h
 split at h
 ·cases h; rw [hn rfl]; rfl
 ·rename_i k n
  cases h
  obtain ⟨v, rfl, hv⟩ := hl _ rfl
  obtain rfl := zCu hv
  simp [Instr.sliceBound, asIntOf, h0, h1]
 ·cases h
theorem zCX {lo hi : Option D} {vlo vhi : Option Value} (hl : ∀ x, lo = some x -> ∃ v, vlo = some v /\ zAy p C w x v) (hln : lo = none -> vlo = none) (hh : ∀ x, hi = some x -> ∃ v, vhi = some v /\ zAy p C w x v) (hhn : hi = none -> vhi = none)
  {len cap : Nat} {l h : Int} (h1 : zFy lo = some l) (h2 : zLb hi len = some h) (h0 : 0 <= l) (hlh : l <= h) (hcap : h <= cap) (sl : Bool) :
  (Instr.sliceBounds sl len cap vlo vhi none).run P w = .ok (l.toNat, h.toNat, cap) w := by
 have a1 := zIu (P := P) hl hln h1 h.toNat .sliceB h0 (by omega)
 have a2 := zSO (P := P) hh hhn h2 cap (if sl then .sliceAcap else .sliceAlen) (by omega) hcap
 unfold Instr.sliceBounds
 cases vhi with
 | none =>
  cases vlo with
  | none => simp at a1 a2; simp [a1, a2]
  | some v => simp at a1 a2; simp [a1, a2]
 | some u =>
  cases vlo with
  | none => simp at a1 a2; simp [a1, a2]
  | some v => simp at a1 a2; simp [a1, a2]
theorem zHD (hT : TOk P T) {t : Nat} {dx d : D} {vx : Value} {lo hi : Option D} {vlo vhi : Option Value} {φ : Prop} (hx : zAy p C w dx vx) (hl : ∀ x, lo = some x -> ∃ v, vlo = some v /\ zAy p C w x v) (hln : lo = none -> vlo = none) (hh : ∀ x, hi = some x -> ∃ v, vhi = some v /\ zAy p C w x v) (hhn : hi = none -> vhi = none)
  (h : zEr T t dx lo hi = some (φ, d)) (hφ : φ) :
  ∃ v, (Instr.sliceAt t vx vlo vhi none).run P w = .ok v w /\ zAy p C w d v := by
 unfold zEr at h
 split at h
 ·rename_i a b z s ht
  have hu := zEZ hT ht
  obtain rfl := zCu hx
  split at h
  ·rename_i l h' e1 e2
   cases h
   have hb := zCX (P := P) hl hln hh hhn e1 e2 hφ.1 hφ.2.1 hφ.2.2 false
   exact ⟨_, by simp [Instr.sliceAt, Instr.slice, run_underlying hu, hb], zAF rfl⟩
  ·cases h
 ·rename_i a b e z xs ht
  have hu := zBI hT ht
  split at h
  ·rename_i ti l h' hti e1 e2
   cases h
   obtain ⟨A, m, cap, z', b', o, U, rfl, hn, hc, hm, hA, hz, hC, hr⟩ := zDb hx
   obtain ⟨f1, f2, f3, f4⟩ := hφ
   rw [hn] at e2
   have hb := zCX (P := P) (cap := cap) hl hln hh hhn e1 e2 f1 f2 (by omega) true
   have hsz := (hT _ _ hti).size w
   refine ⟨.slice (if cap = l.toNat then A else A.map (·.add (l.toNat * ti.size))) (h'.toNat - l.toNat) (cap - l.toNat), by simp [Instr.sliceAt, Instr.slice, run_underlying hu, hb, hsz], ?_⟩
   have hlen : ((xs.drop l.toNat).take (h'.toNat - l.toNat)).length = h'.toNat - l.toNat := by
    rw [List.length_take, List.length_drop]; omega
   refine RepE.sl _ _ _ ti.size b' (o + l.toNat * ti.size) (fun i j => U (l.toNat + i) j) _ hlen (by omega) (by omega) (fun hpos => ?_) (fun cs hcs => f4 cs (List.mem_of_mem_drop (List.mem_of_mem_take hcs))) (fun i cs j e hi hj => ?_) (fun i cs j e hi hj => ?_)
   ·rw [if_neg (by omega), hA (by omega)]
    simp [zCz]
   ·rw [List.getElem?_take] at hi
    split at hi
    ·rw [List.getElem?_drop] at hi
     have h1 := hC _ _ _ _ hi hj
     have hz1 : z' = ti.size := by rw [<-hz _ (List.mem_of_getElem? hi), f4 _ (List.mem_of_getElem? hi)]
     rw [hz1, Nat.add_mul] at h1
     rw [show o + l.toNat * ti.size + i * ti.size + j = o + (l.toNat * ti.size + i * ti.size) + j by omega]
     exact h1
    ·cases hi
   ·rw [List.getElem?_take] at hi
    split at hi
    ·rw [List.getElem?_drop] at hi
     exact hr _ _ _ _ hi hj
    ·cases hi
  ·cases h
 ·rename_i a b len e z cs ht
  have hu := zH4 hT ht
  split at h
  ·rename_i ti l h' hti e1 e2
   cases h
   obtain ⟨b', o, rfl, hc⟩ := hx
   obtain ⟨f1, f2, f3, f4, f5, f6⟩ := hφ
   have hb := zCX (P := P) hl hln hh hhn e1 e2 f1 f3 f4 false
   have hsz := (hT _ _ hti).size w
   have hne : len ≠ l.toNat := by omega
   have hch : ∀ k, ∃ u, ∀ e, cs[k]? = some e -> C b' (o + k) u /\ RepE C e u := by
    intro k
    cases hk : cs[k]? with
    | none => exact ⟨undef, fun _ h => nomatch h⟩
    | some e =>
     obtain ⟨u, h1, h2⟩ := hc k e hk
     exact ⟨u, fun e' he => by cases he; exact ⟨h1, h2⟩⟩
   obtain ⟨g, hg⟩ := Classical.axiomOfChoice hch
   have hlz : l.toNat * ti.size + (h'.toNat - l.toNat) * ti.size = h'.toNat * ti.size := by rw [<-Nat.add_mul]; congr 1; omega
   have hget : ∀ i xs, (zBo ti.size (h'.toNat - l.toNat) (cs.drop (l.toNat * ti.size)))[i]? = some xs -> i < h'.toNat - l.toNat /\ xs = ((cs.drop (l.toNat * ti.size)).drop (i * ti.size)).take ti.size := by
    intro i xs hi
    unfold zBo at hi
    rw [List.getElem?_map, Option.map_eq_some_iff] at hi
    obtain ⟨k, hk, rfl⟩ := hi
    obtain ⟨hk1, hk2⟩ := List.getElem?_eq_some_iff.1 hk
    rw [List.getElem_range] at hk2
    subst hk2
    exact ⟨by simpa using hk1, rfl⟩
   refine ⟨.slice (some ⟨b', o + l.toNat * ti.size, none⟩) (h'.toNat - l.toNat) (len - l.toNat), by simp [Instr.sliceAt, run_underlying hu, Instr.sureAddr, hb, hsz, hne, zCz], ?_⟩
   refine RepE.sl _ _ _ ti.size b' (o + l.toNat * ti.size) (fun i j => g (l.toNat * ti.size + (i * ti.size + j))) _ (by simp [zBo]) (by omega) (by simp only [maxLen]; omega) (fun _ => rfl) (fun xs hxs => ?_) (fun i xs j e hi hj => ?_) (fun i xs j e hi hj => ?_)
   ·obtain ⟨i, hi⟩ := List.getElem?_of_mem hxs
    obtain ⟨h1, rfl⟩ := hget i xs hi
    have h2 : (i + 1) * ti.size <= (h'.toNat - l.toNat) * ti.size := Nat.mul_le_mul_right _ (by omega)
    rw [Nat.add_mul, Nat.one_mul] at h2
    rw [List.length_take, List.length_drop, List.length_drop]
    omega
   ·obtain ⟨h1, rfl⟩ := hget i xs hi
    rw [List.getElem?_take] at hj
    split at hj
    ·rw [List.getElem?_drop, List.getElem?_drop] at hj
     have := (hg _ e hj).1
     rw [<-Nat.add_assoc] at this
     rw [Nat.add_assoc (o + _)]
     exact this
    ·cases hj
   ·obtain ⟨h1, rfl⟩ := hget i xs hi
    rw [List.getElem?_take] at hj
    split at hj
    ·rw [List.getElem?_drop, List.getElem?_drop] at hj
     exact (hg _ e hj).2
    ·cases hj
  ·cases h
 ·cases h
theorem zKm {lo : Option D} {hi mx : D} {vlo : Option Value} {vhi vmx : Value} (hl : ∀ x, lo = some x -> ∃ v, vlo = some v /\ zAy p C w x v) (hln : lo = none -> vlo = none) (hh : zAy p C w hi vhi) (hm : zAy p C w mx vmx)
  {len cap : Nat} {l h k : Int} (h1 : zFy lo = some l) (h2 : zFy (some hi) = some h) (h3 : zFy (some mx) = some k) (h0 : 0 <= l) (hlh : l <= h) (hhk : h <= k) (hcap : k <= cap) :
  (Instr.sliceBounds true len cap vlo (some vhi) (some vmx)).run P w = .ok (l.toNat, h.toNat, k.toNat) w := by
 have a1 := zIu (P := P) hl hln h1 h.toNat .slice3C h0 (by omega)
 have a2 := zIu (P := P) (lo := some hi) (vlo := some vhi) (fun x hx => ⟨vhi, rfl, by cases hx; exact hh⟩) (fun hx => nomatch hx) h2 k.toNat .slice3B (by omega) (by omega)
 have a3 := zIu (P := P) (lo := some mx) (vlo := some vmx) (fun x hx => ⟨vmx, rfl, by cases hx; exact hm⟩) (fun hx => nomatch hx) h3 cap .slice3Acap (by omega) (by omega)
 unfold Instr.sliceBounds
 cases vlo with
 | none => simp at a1 a2 a3; simp [a1, a2, a3]
 | some v => simp at a1 a2 a3; simp [a1, a2, a3]
theorem zKM (hT : TOk P T) {t : Nat} {dx d : D} {vx : Value} {lo : Option D} {hi mx : D} {vlo : Option Value} {vhi vmx : Value} {φ : Prop} (hx : zAy p C w dx vx) (hl : ∀ x, lo = some x -> ∃ v, vlo = some v /\ zAy p C w x v) (hln : lo = none -> vlo = none) (hh : zAy p C w hi vhi) (hm : zAy p C w mx vmx)
  (h : zGY T t dx lo hi mx = some (φ, d)) (hφ : φ) :
  ∃ v, (Instr.sliceAt t vx vlo (some vhi) (some vmx)).run P w = .ok v w /\ zAy p C w d v := by
 unfold zGY at h
 split at h
 ·rename_i a b e z xs ht
  have hu := zBI hT ht
  split at h
  ·rename_i ti l h' k hti e1 e2 e3
   cases h
   obtain ⟨A, m, cap, z', b', o, U, rfl, hn, hc, hmx, hA, hz, hC, hr⟩ := zDb hx
   obtain ⟨f1, f2, f3, f5, f4⟩ := hφ
   have hb := zKm (P := P) (len := m) (cap := cap) hl hln hh hm e1 e2 e3 f1 f2 f3 (by omega)
   have hsz := (hT _ _ hti).size w
   refine ⟨.slice (if k.toNat = l.toNat then A else A.map (·.add (l.toNat * ti.size))) (h'.toNat - l.toNat) (k.toNat - l.toNat), by simp [Instr.sliceAt, Instr.slice, run_underlying hu, hb, hsz], ?_⟩
   have hlen : ((xs.drop l.toNat).take (h'.toNat - l.toNat)).length = h'.toNat - l.toNat := by
    rw [List.length_take, List.length_drop]; omega
   refine RepE.sl _ _ _ ti.size b' (o + l.toNat * ti.size) (fun i j => U (l.toNat + i) j) _ hlen (by omega) (by omega) (fun hpos => ?_) (fun cs hcs => f4 cs (List.mem_of_mem_drop (List.mem_of_mem_take hcs))) (fun i cs j e hi hj => ?_) (fun i cs j e hi hj => ?_)
   ·rw [if_neg (by omega), hA (by omega)]
    simp [zCz]
   ·rw [List.getElem?_take] at hi
    split at hi
    ·rw [List.getElem?_drop] at hi
     have h1 := hC _ _ _ _ hi hj
     have hz1 : z' = ti.size := by rw [<-hz _ (List.mem_of_getElem? hi), f4 _ (List.mem_of_getElem? hi)]
     rw [hz1, Nat.add_mul] at h1
     rw [show o + l.toNat * ti.size + i * ti.size + j = o + (l.toNat * ti.size + i * ti.size) + j by omega]
     exact h1
    ·cases hi
   ·rw [List.getElem?_take] at hi
    split at hi
    ·rw [List.getElem?_drop] at hi
     exact hr _ _ _ _ hi hj
    ·cases hi
  ·cases h
 ·cases h
theorem zJ9 {dx d : D} {vx : Value} {i : Nat} {φ : Prop} (hx : zAy p C w dx vx) (h : zFI dx i = some (φ, d)) (hφ : φ) : ∃ v, (Instr.extract vx i).run P w = .ok v w /\ zAy p C w d v := by
 unfold zFI at h
 split at h
 ·rename_i xs
  obtain ⟨vs, rfl, hl, hr⟩ := hx
  have key : ∀ y, xs[i]? = some y -> ∃ u, vs[i]? = some u /\ zMP p C w y u := fun y hy => by
   have : i < vs.length := by rw [<-hl]; exact (List.getElem?_eq_some_iff.1 hy).1
   exact ⟨vs[i], List.getElem?_eq_getElem this, hr i y _ hy (List.getElem?_eq_getElem this)⟩
  split at h
  ·rename_i c hc
   cases h
   obtain ⟨u, h1, h2⟩ := key _ hc
   obtain ⟨us, rfl, h3⟩ := h2
   exact ⟨_, by simp [Instr.extract, h1], us, rfl, h3⟩
  ·rename_i c hc
   cases h
   obtain ⟨u, h1, h2⟩ := key _ hc
   refine ⟨u, by simp [Instr.extract, h1], ?_⟩
   have h2 : zBA p C w c.d0 [u] := h2
   exact h2.2 0 _ _ (Cs.at_eq (by omega)) rfl
  ·cases h
 ·cases h
theorem zOq {dc dx dy d : D} {vc vx vy : Value} {φ : Prop} (hc : zAy p C w dc vc) (hx : zAy p C w dx vx) (hy : zAy p C w dy vy) (h : zLl dc dx dy = some (φ, d)) :
  ∃ b, vc = .bool b /\ zAy p C w d (if b then vx else vy) := by
 unfold zLl at h
 split at h
 ·rename_i c x y
  cases h
  obtain rfl := zCu hc
  obtain rfl := zCu hx
  obtain rfl := zCu hy
  exact ⟨c, rfl, by cases c <;> exact zAF rfl⟩
 ·cases h
theorem zGK {mn : Bool} {dx dy d : D} {vx vy : Value} {φ : Prop} (hx : zAy p C w dx vx) (hy : zAy p C w dy vy) (h : zFh mn dx dy = some (φ, d)) (ts : Array TypeId) (ty : TypeId) :
  ∃ v, (if mn then Builtin.min_ ts ty #[vx, vy] else Builtin.max_ ts ty #[vx, vy]).run P w = .ok v w /\ zAy p C w d v := by
 unfold zFh at h
 split at h
 ·rename_i k a k' b
  cases h
  obtain rfl := zCu hx
  obtain rfl := zCu hy
  cases mn with
  | true => exact ⟨.int k (if b < a then b else a), by simp [Builtin.min_, Builtin.min2], zAF rfl⟩
  | false => exact ⟨.int k (if a < b then b else a), by simp [Builtin.max_, Builtin.max2], zAF rfl⟩
 ·cases h
theorem zHU : ∀ (ns : List Int) (r : ByteArray), ns.foldl (fun r n => r.push (UInt8.ofNat n.toNat)) r = ⟨r.data ++ (ns.map fun n => UInt8.ofNat n.toNat).toArray⟩
 | [], r => by cases r; simp
 | n :: ns, r => by
  rw [List.foldl_cons, zHU ns]
  cases r
  simp [ByteArray.push]
theorem zHb {b o c : Nat} {xs : List (List E)} (h : ∀ (i : Nat) cs, xs[i]? = some cs -> zGS cs /\ w.cell? ⟨b, o + i, none⟩ = some (.int .u8 (cs.getD 0 E.dflt).int)) :
  (Conv.bytesToString (.slice (some ⟨b, o, none⟩) xs.length c)).run P w = .ok (.string (zES xs)) w := by
 have hl := run_loadCells_list (P := P) w ⟨b, o, none⟩ ((xs.map fun cs => (cs.getD 0 E.dflt).int).map (Value.int .u8)) (fun j v hv => by
  rw [zCz]
  simp only [List.getElem?_map, Option.map_eq_some_iff] at hv
  obtain ⟨_, ⟨cs, h1, rfl⟩, rfl⟩ := hv
  exact (h j cs h1).2)
 simp only [List.length_map] at hl
 rw [run_bytesToString (P := P) w _ _ c _ hl, zHU]
 congr 2
 unfold zES
 congr 1
 simp
theorem zEM {cs : List E} (h : zGS cs) {u : Value} (hr : ∀ e, cs[0]? = some e -> RepE C e u) : u = .int .u8 (cs.getD 0 E.dflt).int := by
 obtain ⟨b, rfl⟩ := h
 have := hr _ rfl
 cases this
 rfl
theorem zLt {A : Option Addr} {n c : Nat} {xs : List (List E)} (hx : RepE C (.sl xs) (.slice A n c)) (hC : ∀ b o u, C b o u -> w.cell? ⟨b, o, none⟩ = some u) (hb : ∀ cs ∈ xs, zGS cs) :
  (Conv.bytesToString (.slice A n c)).run P w = .ok (.string (zES xs)) w := by
 obtain ⟨A', m, cap, z, b, o, U, he, hn, hc, hm, hA, hz, hC', hr⟩ := zDb hx
 cases he
 rcases Nat.eq_zero_or_pos n with h0 | h0
 ·have hx0 : xs = [] := List.eq_nil_of_length_eq_zero (by omega)
  subst hx0
  subst h0
  cases A with
  | none => rfl
  | some a =>
   have := run_bytesToString (P := P) w a 0 c [] (by simp [loadCells, loadCellsFrom])
   exact this
 ·rw [hA h0, <-hn]
  refine zHb fun i cs hi => ?_
  have hcs := hb cs (List.mem_of_getElem? hi)
  obtain ⟨b', rfl⟩ := hcs
  have h1 := hC' i _ 0 _ hi rfl
  have hz1 : z = 1 := (hz _ (List.mem_of_getElem? hi)).symm
  rw [hz1, Nat.mul_one, Nat.add_zero] at h1
  refine ⟨⟨b', rfl⟩, ?_⟩
  rw [hC _ _ _ h1, zEM (C := C) (u := U i 0) ⟨b', rfl⟩ (fun e he => by
   have := hr i _ 0 e hi he
   exact this)]
theorem zPi (hT : TOk P T) (hR : RM X p w) {s dt : Nat} {dx d : D} {vx : Value} {φ : Prop} (hx : zAy p (CW X p w) w dx vx) (h : zFK T p.mem s dt dx = some (φ, d)) (hφ : φ) :
  ∃ v, (convert s dt vx).run P w = .ok v w /\ zAy p (CW X p w) w d v := by
 unfold zFK at h
 split at h
 ·rename_i ts a b k z k' n hs hd
  obtain rfl := zCu hx
  cases h
  have hu := zHR hT hd
  obtain ⟨i, dd, z, h1, h2, _⟩ := (hT _ _ hs).out
  refine ⟨.int k (k.wrap n), ?_, zAF rfl⟩
  simp only [convert, Sem.run_bind, run_underlying h2, run_underlying hu, Result.andThen_ok]
  cases dd <;> rfl
 ·rename_i ts a b z str hs hd
  obtain rfl := zCu hx
  cases h
  have hu := zEZ hT hd
  obtain ⟨i, dd, z, h1, h2, _⟩ := (hT _ _ hs).out
  refine ⟨.string str, ?_, zAF rfl⟩
  simp only [convert, Sem.run_bind, run_underlying h2, run_underlying hu, Result.andThen_ok]
  cases dd <;> rfl
 ·rename_i a b e z a' b' z' y hs hd
  have hu := zEZ hT hd
  have hus := zBI hT hs
  split at h
  ·rename_i a b z xs hte
   have hue := zHR hT hte
   cases h
   obtain ⟨A, m, cap, z, b, o, U, rfl, hn, _⟩ := zDb hx
   refine ⟨_, ?_, zAF rfl⟩
   rw [run_convert_bytes_string w s dt _ _ _ _ hus hue hu]
   exact zLt hx (fun _ _ _ h => h.1) hφ
  ·rename_i a b z hte
   have hue := zHR hT hte
   cases h
   obtain rfl : vx = .slice none 0 0 := hx
   refine ⟨_, ?_, zAF rfl⟩
   rw [run_convert_bytes_string w s dt _ _ _ _ hus hue hu]
   rfl
  ·rename_i a b z id ver hte
   have hue := zHR hT hte
   split at h
   ·rename_i bv z xs pub hb
    cases hv : Nat.beq bv ver with
    | false => simp [hv] at h
    | true =>
     obtain rfl := Nat.eq_of_beq_eq_true hv
     simp only [hv, cond_true, Option.some.injEq, Prod.mk.injEq] at h
     obtain ⟨rfl, rfl⟩ := h
     obtain ⟨_, blk, h1, h2, h3⟩ := hx
     rw [hb] at h1
     cases h1
     obtain ⟨z', n', q1, q2, q3⟩ := h3 rfl
     simp only [Body.shape, Prod.mk.injEq] at q1
     obtain ⟨rfl, rfl⟩ := q1
     have hempty : ∀ A : Option Addr, xs = [] -> (Conv.bytesToString (.slice A 0 0)).run P w = .ok (.string (zES [])) w := fun A _ => by
      cases A with
      | none => rfl
      | some a => exact run_bytesToString (P := P) w a 0 0 [] (by simp [loadCells, loadCellsFrom])
     rcases q3 with ⟨q3, A, rfl⟩ | ⟨g, cap, g1, rfl, g3, g4, g5⟩
     ·have hx0 : xs = [] := List.eq_nil_of_length_eq_zero q3
      subst hx0
      refine ⟨_, ?_, zAF rfl⟩
      rw [run_convert_bytes_string w s dt _ _ _ _ hus hue hu]
      exact hempty A rfl
     ·refine ⟨_, ?_, zAF rfl⟩
      rw [run_convert_bytes_string w s dt _ _ _ _ hus hue hu]
      refine zHb fun i cs hi => ?_
      have hcs := hφ cs (List.mem_of_getElem? hi)
      have hm := zK1 hR hb g1 i
      have hgd : xs.getD i [] = cs := by simp [List.getD_eq_getElem?_getD, hi]
      rw [hgd] at hm
      obtain ⟨b', rfl⟩ := hcs
      have hz1 : z = 1 := by
       have hok := hR.blk id _ hb
       simp only [zAP, g1] at hok
       exact (hok.1.2 _ (List.mem_of_getElem? hi)).symm
      obtain ⟨u, u1, u2⟩ := hm 0 _ rfl
      refine ⟨⟨b', rfl⟩, ?_⟩
      rw [hz1, Nat.mul_one, Nat.add_zero] at u1
      rw [Nat.zero_add, u1, zEM (C := CW X p w) (u := u) ⟨b', rfl⟩ (fun e he => by
       cases he
       exact u2)]
   ·cases h
  ·rename_i a b z id ver off z1 n hte
   have hue := zHR hT hte
   split at h
   ·rename_i bv cs pub hb
    cases hv : (Nat.beq bv ver && Nat.beq z1 1) with
    | false => simp [hv] at h
    | true =>
     simp only [hv, cond_true, Option.some.injEq, Prod.mk.injEq] at h
     obtain ⟨rfl, rfl⟩ := h
     simp only [Bool.and_eq_true] at hv
     obtain rfl := Nat.eq_of_beq_eq_true hv.1
     obtain rfl := Nat.eq_of_beq_eq_true hv.2
     obtain ⟨_, blk, h1, h2, h3⟩ := hx
     rw [hb] at h1
     cases h1
     obtain ⟨_, _, g, cap, g1, rfl, _⟩ := h3 rfl
     refine ⟨_, ?_, zAF rfl⟩
     rw [run_convert_bytes_string w s dt _ _ _ _ hus hue hu]
     have hbr := zHb (P := P) (w := w) (b := g) (o := off) (c := cap) (xs := zBo 1 n (cs.drop off)) fun i ch hi => by
      have hcs := hφ ch (List.mem_of_getElem? hi)
      obtain ⟨hin, he⟩ := zEP hi
      rw [Nat.mul_one] at he
      obtain ⟨b', hb'⟩ := hcs
      have hm := zI5 hR hb g1 (off + i) 1
      rw [<-List.drop_drop, <-he, hb'] at hm
      obtain ⟨u, u1, u2⟩ := hm 0 _ rfl
      refine ⟨⟨b', hb'⟩, ?_⟩
      rw [Nat.add_zero] at u1
      rw [u1, zEM (C := CW X p w) (u := u) ⟨b', hb'⟩ (fun e he => by
       rw [hb'] at he
       cases he
       exact u2)]
     rw [zCW] at hbr
     exact hbr
   ·cases h
  ·cases h
 ·cases h
theorem zMd (hT : TOk P T) {s : Nat} {a b k e : Nat} {z : List Value} (h : T s = some ⟨a, b, .map k e, z⟩) : P.underlying s = some (.map k e) := by
 obtain ⟨i, d, z, h1, h2, h3, h4, h5, _⟩ := (hT _ _ h).out
 rw [h2, show d = .map k e from h5]
theorem zTw (hT : TOk P T) {s : Nat} {a b : Nat} {z : List Value} (h : T s = some ⟨a, b, .int .i64, z⟩) (hz : zQJ z = true) : (zeroValue s).run P w = .ok (.int .i64 0) w := by
 obtain ⟨i, d, z', h1, h2, h3, h4, h5, h6, h7, _⟩ := (hT _ _ h).out
 have hne := (hT _ _ h).nz i z' .i64 h1 h6 rfl
 have e : z' = .int .i64 0 := by
  have hz2 : z = [.int .i64 0] := by
   unfold zQJ at hz
   split at hz
   ·rfl
   ·cases hz
  have h7 : z'.cells.toList = [.int .i64 0] := h7.trans hz2
  cases z' with
  | agg cs => exact absurd rfl (hne cs)
  | int k n => simpa [Value.cells] using h7
  | _ => simp [Value.cells] at h7
 rw [e] at h6
 simp [zeroValue, typeInfo, h1, h6]
theorem zGz (a b : ByteArray) : zA1 a b = (a == b) := (beq_toListBytes a b).symm
theorem zGV (s : ByteArray) : ∀ (l : List (ByteArray × Int)) (i b : Nat),
  (Instr.findNow .string (.string s) (zBb b l) i = some none /\ (∀ n, zNS l s n = l ++ [(s, n)]) /\ zRL l s = 0) ∨
  ∃ j k v, Instr.findNow .string (.string s) (zBb b l) i = some (some (i + j, .int .i64 v)) /\ l[j]? = some (k, v) /\ s = k /\ zRL l s = v /\ ∀ n, zNS l s n = l.set j (s, n)
 | [], i, b => .inl ⟨rfl, fun _ => rfl, rfl⟩
 | (k, v) :: r, i, b => by
  cases hb : zA1 s k with
  | true =>
   refine .inr ⟨0, k, v, ?_, rfl, (bytes_beq s k).1 ((zGz s k).symm.trans hb), by rw [zRL, hb]; rfl, fun n => by rw [zNS, hb]; rfl⟩
   have : (s == k) = true := (zGz s k).symm.trans hb
   simp [zBb, Instr.findNow, Instr.sameNow, this]
  | false =>
   have hf : (s == k) = false := (zGz s k).symm.trans hb
   rcases zGV s r (i + 1) (b + 1) with ⟨h1, h2, h3⟩ | ⟨j, k', v', h1, h2, h3, h4, h5⟩
   ·exact .inl ⟨by simpa [zBb, Instr.findNow, Instr.sameNow, hf] using h1, fun n => by rw [zNS, hb, h2]; rfl, by rw [zRL, hb]; exact h3⟩
   ·refine .inr ⟨j + 1, k', v', ?_, by simpa using h2, h3, by rw [zRL, hb]; exact h4, fun n => by rw [zNS, hb, h5]; rfl⟩
    rw [show i + (j + 1) = i + 1 + j by omega]
    simpa [zBb, Instr.findNow, Instr.sameNow, hf] using h1
theorem zOm {id ver : Nat} {o : Raw} {bv pub : Nat} (hR : RM X p w) (hm : p.mem id = some ⟨bv, .raw o, pub⟩) (hb : bv = ver) {K : Nat -> Prop} (hl : zKv p id ver K) : ∃ g, p.μ id = some g /\ K g /\ w.heap[g]? = some o.obj := by
 obtain ⟨blk, h1, h2, h3⟩ := hl
 rw [hm] at h1
 cases h1
 obtain ⟨g, hg, hk⟩ := h3 hb.symm
 have := hR.blk id _ hm
 simp only [zAP, hg] at this
 obtain ⟨_, _, _, _, cur, e, lo, hi, h4, _⟩ := this
 exact ⟨g, hg, hk, h4⟩
theorem zK4 (hT : TOk P T) (hR : RM X p w) {t : Nat} {dx di d : D} {vx vi : Value} {φ : Prop} (hx : zAy p (CW X p w) w dx vx) (hi : zAy p (CW X p w) w di vi) (h : zDs T p.mem t dx di = some (φ, d)) :
  ∃ v, (Instr.lookup t vx vi false).run P w = .ok v w /\ zAy p (CW X p w) w d v := by
 unfold zDs at h
 split at h
 ·rename_i a b k e z id ver s ht
  split at h
  ·rename_i a1 b1 z1 a2 b2 z2 bv l pub hk he hm
   cases hc : (Nat.beq bv ver && zQJ z2) with
   | false => rw [hc] at h; cases h
   | true =>
    rw [hc] at h
    cases h
    rw [Bool.and_eq_true] at hc
    obtain ⟨g, hg, rfl, hh⟩ := zOm hR hm (Nat.eq_of_beq_eq_true hc.1) hx.2
    obtain rfl := zCu hi
    have hh : w.heap[g]? = some (.map (zBb 0 l).toArray l.length) := hh
    have hs := zEZ hT hk
    refine ⟨.int .i64 (zRL l s), ?_, zAF rfl⟩
    rcases zGV s l 0 0 with ⟨h1, h2, h3⟩ | ⟨j, k', v', h1, h2, h3, h4, h5⟩
    ·rw [h3]
     simp [Instr.lookup, run_underlying (zMd hT ht), MapKept.run_getObj_map hh, MapKept.run_checkKey (k := .string s) hs trivial, MapKept.run_findKey hs h1, zTw hT he hc.2, Result.andThen]
    ·rw [h4]
     simp [Instr.lookup, run_underlying (zMd hT ht), MapKept.run_getObj_map hh, MapKept.run_checkKey (k := .string s) hs trivial, MapKept.run_findKey hs h1, Result.andThen]
  ·cases h
 ·cases h
theorem zNq (hT : TOk P T) {t : Nat} {dx d : D} {vx : Value} {φ : Prop} (hx : zAy p C w dx vx) (h : zIT T t dx = some (φ, d)) : ∃ v, (Instr.makeInterface t vx).run P w = .ok v w /\ zAy p C w d v := by
 unfold zIT at h
 split at h
 ·rename_i sz by_ fs z cs ht
  obtain ⟨F, hF, _⟩ := zDg hT ht
  split at h
  ·rename_i vs hv
   cases h
   obtain ⟨us, rfl, hl, hr⟩ := hx
   obtain rfl := zPI hv
   have e : us = vs := by
    refine List.ext_getElem? fun i => ?_
    have hl : vs.length = us.length := by simpa [Cs.d0] using hl
    rcases Nat.lt_or_ge i us.length with hi | hi
    ·have := hr i (.e (.v vs[i])) us[i] (by simp [Cs.d0, hl, hi]) (List.getElem?_eq_getElem hi)
     rw [List.getElem?_eq_getElem hi, List.getElem?_eq_getElem (by omega), zCu this]
    ·rw [List.getElem?_eq_none hi, List.getElem?_eq_none (by omega)]
   subst e
   exact ⟨.iface t (.agg us.toArray), by simp [Instr.makeInterface, run_underlying hF, Result.andThen], zAF rfl⟩
  ·cases h
 ·cases h
theorem zRn {vs : List Value} (h : vs.all (·.oneCell') = true) : zBA p C w ((Cs.es (vs.map .v)).d0) vs := by
 refine ⟨by simp [Cs.d0], fun i x u hx hu => ?_⟩
 simp only [Cs.d0, List.getElem?_map, hu, Option.map_some, Option.some.injEq] at hx
 subst hx
 exact RepE.v u (List.all_eq_true.1 h u (List.mem_of_getElem? hu))
theorem zLu (hT : TOk P T) {a xt : Nat} {dx d : D} {vx : Value} {φ : Prop} (hx : zAy p C w dx vx) (h : zG4 T a dx = some (φ, d)) (hφ : φ) : ∃ v, (Instr.typeAssert vx xt a true).run P w = .ok v w /\ zAy p C w d v := by
 unfold zG4 at h
 split at h
 ·rename_i sz by_ fs z t vs ht
  obtain ⟨F, hF, _⟩ := zDg hT ht
  obtain rfl := zCu hx
  have one : ∀ b : Bool, zMP p C w (false, .es [.v (.bool b)]) (.bool b) := fun b => ⟨rfl, fun j y u e1 e2 => by
   cases j with
   | zero => simp [Cs.d0] at e1 e2; subst e1; subst e2; exact RepE.v _ rfl
   | succ j => simp at e2⟩
  cases hb : Nat.beq t a with
  | true =>
   obtain rfl := Nat.eq_of_beq_eq_true hb
   rw [hb] at h
   cases h
   refine ⟨.tuple #[.agg vs, .bool true], by simp [Instr.typeAssert, run_underlying hF, Result.andThen], [.agg vs, .bool true], rfl, rfl, fun i y u k1 k2 => ?_⟩
   match i, k1, k2 with
   | 0, k1, k2 => simp at k1 k2; subst k1; subst k2; exact ⟨vs.toList, by simp, zRn hφ⟩
   | 1, k1, k2 => simp at k1 k2; subst k1; subst k2; exact one true
   | i + 2, k1, k2 => simp at k1
  | false =>
   have hne : ¬ t = a := fun e => by rw [e] at hb; simp at hb
   rw [hb] at h
   cases h
   obtain ⟨i, d, z0, h1, h2, h3, h4, h5, h6, h7, h8⟩ := (hT _ _ ht).out
   obtain ⟨cs, rfl⟩ := (hT _ _ ht).az i z0 h1 h6 rfl
   have h7 : cs.toList = z := h7
   refine ⟨.tuple #[.agg cs, .bool false], by simp [Instr.typeAssert, run_underlying hF, Result.andThen, hne, zeroValue, typeInfo, h1, h6], [.agg cs, .bool false], rfl, rfl, fun i y u k1 k2 => ?_⟩
   match i, k1, k2 with
   | 0, k1, k2 => simp at k1 k2; subst k1; subst k2; exact ⟨cs.toList, by simp, by rw [<-h7]; exact zRn (List.all_eq_true.2 (h7 ▸ h8))⟩
   | 1, k1, k2 => simp at k1 k2; subst k1; subst k2; exact one false
   | i + 2, k1, k2 => simp at k1
 ·cases h
theorem zNA (hT : TOk P T) (hR : RM X p w) {o : Oper} {ev : Ev} {ρ : Operand -> Value} (hρ : ∀ x ∈ o.op.operands, zAy p (CW X p w) w (ev x) (ρ x)) {φ : Prop} {d : D} (h : zIP T p.mem o.op ev = some (φ, d)) (hφ : φ) :
  ∃ v, (execOp ρ o).run P w = .ok (.value v) w /\ zAy p (CW X p w) w d v := by
 obtain ⟨dst, op, type, pos, after, guard⟩ := o
 dsimp only at h hρ
 unfold zIP at h
 split at h
 ·cases h; exact ⟨_, rfl, hρ _ (by simp [Op.operands])⟩
 ·cases h; exact ⟨_, rfl, hρ _ (by simp [Op.operands])⟩
 ·rename_i c a b
  obtain ⟨t, h1, h2⟩ := zOq (hρ c (by simp [Op.operands])) (hρ a (by simp [Op.operands])) (hρ b (by simp [Op.operands])) h
  exact ⟨_, by simp only [execOp, h1, asBool]; rfl, h2⟩
 ·rename_i op t x y yt
  obtain ⟨v, h1, h2⟩ := zQ7 hT (hρ x (by simp [Op.operands])) (hρ y (by simp [Op.operands])) h hφ
  exact ⟨v, by simp only [execOp, Sem.run_bind, h1 x y] ; rfl, h2⟩
 ·rename_i op t x
  obtain ⟨v, h1, h2⟩ := zSd (P := P) (hρ x (by simp [Op.operands])) h
  exact ⟨v, by simp only [execOp, Sem.run_bind, h1]; rfl, h2⟩
 ·rename_i s dt x
  obtain ⟨v, h1, h2⟩ := zPi hT hR (hρ x (by simp [Op.operands])) h hφ
  exact ⟨v, by simp only [execOp, Sem.run_bind, h1]; rfl, h2⟩
 ·rename_i t x
  split at h
  ·rename_i ti ht
   obtain ⟨v, h1, h2⟩ := zHO hT hR ht (zIn (hρ x (by simp [Op.operands]))) h hφ
   exact ⟨v, by simp only [execOp, Sem.run_bind, h1]; rfl, h2⟩
  ·cases h
 ·rename_i x
  have hx := zIn (hρ x (by simp [Op.operands]))
  split at h
  ·rename_i id ver off he
   cases hl : zFz p.mem (.one (.ptr id ver off)) with
   | false => simp [hl] at h
   | true =>
    simp only [hl, cond_true, Option.some.injEq, Prod.mk.injEq] at h
    obtain ⟨rfl, rfl⟩ := h
    rw [he] at hx
    have hx' := hx
    obtain ⟨_, blk, h1, h2, h3⟩ := hx
    obtain ⟨blk', k1, k2⟩ := (zD2 hl).1 _ _ _ rfl
    rw [h1] at k1
    cases k1
    obtain ⟨g, hg, hv⟩ := h3 k2
    exact ⟨ρ x, by simp only [execOp, hv]; rfl, hx'⟩
  ·rename_i cs he
   cases h
   rw [he] at hx
   have hx' := hx
   obtain ⟨b, o, hv, _⟩ := hx
   exact ⟨ρ x, by simp only [execOp, hv]; rfl, hx'⟩
  ·cases h
 ·rename_i s x f
  cases hl : zFz p.mem (ev x).ptn with
  | false => simp [hl] at h
  | true =>
   simp only [hl, cond_true] at h
   obtain ⟨v, h1, h2⟩ := zNx hT (zIn (hρ x (by simp [Op.operands]))) h (zD2 hl).1 (zD2 hl).2
   exact ⟨v, by simp only [execOp, Sem.run_bind, h1]; rfl, h2⟩
 ·rename_i s x f
  obtain ⟨v, h1, h2⟩ := zLg hT (hρ x (by simp [Op.operands])) h hφ
  exact ⟨v, by simp only [execOp, Sem.run_bind, h1]; rfl, h2⟩
 ·rename_i t x i
  cases hl : zFz p.mem (ev x).ptn with
  | false => simp [hl] at h
  | true =>
   simp only [hl, cond_true] at h
   obtain ⟨v, h1, h2⟩ := zK7 hT (zIn (hρ x (by simp [Op.operands]))) (hρ i (by simp [Op.operands])) h hφ (zD2 hl).1 (zD2 hl).2
   exact ⟨v, by simp only [execOp, Sem.run_bind, h1]; rfl, h2⟩
 ·rename_i t x i
  obtain ⟨v, h1, h2⟩ := zK6 hT (hρ x (by simp [Op.operands])) (hρ i (by simp [Op.operands])) h hφ
  exact ⟨v, by simp only [execOp, Sem.run_bind, h1]; rfl, h2⟩
 ·rename_i t x lo hi
  obtain ⟨v, h1, h2⟩ := zHD (P := P) (vlo := lo.map ρ) (vhi := hi.map ρ) hT (hρ x (by simp [Op.operands])) (fun y hy => by
    obtain ⟨z, rfl, rfl⟩ := Option.map_eq_some_iff.1 hy
    exact ⟨_, rfl, hρ z (by simp [Op.operands])⟩) (fun hn => by simp at hn; simp [hn]) (fun y hy => by
    obtain ⟨z, rfl, rfl⟩ := Option.map_eq_some_iff.1 hy
    exact ⟨_, rfl, hρ z (by simp [Op.operands])⟩) (fun hn => by simp at hn; simp [hn]) h hφ
  exact ⟨v, by simp only [execOp, Sem.run_bind, Option.map_none, h1]; rfl, h2⟩
 ·rename_i t x lo hi mx
  obtain ⟨v, h1, h2⟩ := zKM (P := P) (vlo := lo.map ρ) (vhi := ρ hi) (vmx := ρ mx) hT (hρ x (by simp [Op.operands])) (fun y hy => by
    obtain ⟨z, rfl, rfl⟩ := Option.map_eq_some_iff.1 hy
    exact ⟨_, rfl, hρ z (by simp [Op.operands])⟩) (fun hn => by simp at hn; simp [hn]) (hρ hi (by simp [Op.operands])) (hρ mx (by simp [Op.operands])) h hφ
  exact ⟨v, by simp only [execOp, Sem.run_bind, Option.map_some, h1]; rfl, h2⟩
 ·rename_i x i
  obtain ⟨v, h1, h2⟩ := zJ9 (P := P) (hρ x (by simp [Op.operands])) h hφ
  exact ⟨v, by simp only [execOp, Sem.run_bind, h1]; rfl, h2⟩
 ·rename_i t x i
  obtain ⟨v, h1, h2⟩ := zK4 hT hR (hρ x (by simp [Op.operands])) (hρ i (by simp [Op.operands])) h
  exact ⟨v, by simp only [execOp, Sem.run_bind, h1]; rfl, h2⟩
 ·rename_i t x
  obtain ⟨v, h1, h2⟩ := zNq (P := P) hT (hρ x (by simp [Op.operands])) h
  exact ⟨v, by simp only [execOp, Sem.run_bind, h1]; rfl, h2⟩
 ·rename_i x xt a
  obtain ⟨v, h1, h2⟩ := zLu (P := P) (xt := xt) hT (hρ x (by simp [Op.operands])) h hφ
  exact ⟨v, by simp only [execOp, Sem.run_bind, h1]; rfl, h2⟩
 ·rename_i args ts
  split at h
  ·rename_i x t ha ht
   obtain rfl : args = #[x] := by rw [<-Array.toArray_toList (xs := args), ha]
   obtain rfl : ts = #[t] := by rw [<-Array.toArray_toList (xs := ts), ht]
   obtain ⟨v, h1, h2⟩ := zQH (P := P) hT (hρ x (by simp [Op.operands, Call.operands])) h type
   exact ⟨v, by simp [execOp, resolve, invoke, builtin, h1], h2⟩
  ·cases h
 ·rename_i args ts
  split at h
  ·rename_i x y ha
   obtain rfl : args = #[x, y] := by rw [<-Array.toArray_toList (xs := args), ha]
   obtain ⟨v, h1, h2⟩ := zGK (P := P) (hρ x (by simp [Op.operands, Call.operands])) (hρ y (by simp [Op.operands, Call.operands])) h ts type
   simp only [if_true] at h1
   exact ⟨v, by simp [execOp, resolve, invoke, builtin, h1], h2⟩
  ·cases h
 ·rename_i args ts
  split at h
  ·rename_i x y ha
   obtain rfl : args = #[x, y] := by rw [<-Array.toArray_toList (xs := args), ha]
   obtain ⟨v, h1, h2⟩ := zGK (P := P) (hρ x (by simp [Op.operands, Call.operands])) (hρ y (by simp [Op.operands, Call.operands])) h ts type
   simp only [Bool.false_eq_true, if_false] at h1
   exact ⟨v, by simp [execOp, resolve, invoke, builtin, h1], h2⟩
  ·cases h
 ·cases h
end
end Go.Proofs.YtcdifgacoleckaaGreatDoor.Ab
namespace Go.Proofs.YtcdifgacoleckaaGreatDoor.Ab
open Go Go.RowKit
abbrev zBa := List (Nat × Blk)
def zBd (m : Mem) (us : zBa) : Mem := us.foldl (fun m u => upd m u.1 (some u.2)) m
structure Ef where
 φ : Prop
 val : D
 upds : zBa
def zDd (m : Mem) (id : Nat) : Nat := match m id with
 | some b => b.ver + 1
 | none => 0
def D.cs? : D -> Option Cs
 | .one (.e x) => some (.es [x])
 | .one x => some (.ds [x])
 | .agg c => some c
 | _ => none
def zIy : Value -> Bool
 | .slice .. => true
 | _ => false
def zD : Value -> D0
 | .slice none 0 0 => .nil
 | v => .e (.v v)
def zCR (vs : List Value) : Cs := bif vs.any zIy then .ds (vs.map zD) else .es (vs.map .v)
def frz (m : Mem) : D0 -> Option (E × zBa)
 | .e x => some (x, [])
 | .nil => some (.sl [], [])
 | .own id ver => match m id with
  | some ⟨bv, .row z xs, _⟩ => bif Nat.beq bv ver then some (.sl xs, [(id, ⟨bv, .row z xs, (Body.row z xs).cells.length⟩)]) else none
  | _ => none
 | .bsl id ver off z n => match m id with
  | some ⟨bv, .box (.es cs), _⟩ => bif Nat.beq bv ver then some (.sl (zBo z n (cs.drop off)), [(id, ⟨bv, .box (.es cs), (Body.box (.es cs)).cells.length⟩)]) else none
  | _ => none
 | .ptr id ver off => match m id with
  | some ⟨bv, .box (.es cs), _⟩ => bif Nat.beq bv ver then some (.pt (cs.drop off), [(id, ⟨bv, .box (.es cs), (Body.box (.es cs)).cells.length⟩)]) else none
  | _ => none
 | .eptr cs => some (.pt cs, [])
 | _ => none
def zPP (m : Mem) : List D0 -> Option (List E × zBa)
 | [] => some ([], [])
 | x :: r => match frz m x, zPP m r with
  | some (e, u), some (es, us) => some (e :: es, u ++ us)
  | _, _ => none
def zNt (m : Mem) : Cs -> Option (List E × zBa)
 | .es xs => some (xs, [])
 | .ds xs => zPP m xs
def zTs : List D0 -> Option (List E)
 | [] => some []
 | .e a :: r => match zTs r with
  | some s => some (a :: s)
  | none => none
 | _ :: _ => none
theorem zPJ : ∀ {ys : List D0} {es : List E}, zTs ys = some es -> ys = es.map .e
 | [], es, h => by cases h; rfl
 | y :: r, es, h => by
  cases y with
  | e a =>
   rw [zTs] at h
   cases hr : zTs r with
   | none => rw [hr] at h; cases h
   | some s => rw [hr] at h; cases h; rw [zPJ hr]; rfl
  | _ => cases h
def Cs.put (c : Cs) (o n : Nat) (x : Cs) : Cs :=
 match c, x with
 | .es xs, .es ys => .es (xs.take o ++ ys ++ xs.drop (o + n))
 | .es xs, .ds ys => match zTs ys with
  | some zs => .es (xs.take o ++ zs ++ xs.drop (o + n))
  | none => .ds ((xs.map .e).take o ++ ys ++ (xs.map .e).drop (o + n))
 | .ds xs, .es ys => bif Nat.beq o 0 && Nat.beq xs.length n then .es ys else .ds (xs.take o ++ ys.map .e ++ xs.drop (o + n))
 | .ds xs, .ds ys => .ds (xs.take o ++ ys ++ xs.drop (o + n))
theorem Cs.put_d0 (c x : Cs) (o n : Nat) : (c.put o n x).d0 = c.d0.take o ++ x.d0 ++ c.d0.drop (o + n) := by
 cases c with
 | es xs =>
  cases x with
  | es ys => simp [Cs.put, Cs.d0]
  | ds ys =>
   unfold Cs.put
   cases h : zTs ys with
   | none =>
    simp only
    rw [h]
    simp [Cs.d0]
   | some zs =>
    simp only
    rw [h, show (Cs.ds ys).d0 = zs.map .e from zPJ h]
    simp [Cs.d0]
 | ds xs => cases x with
  | ds ys => simp [Cs.put, Cs.d0]
  | es ys =>
   show (bif Nat.beq o 0 && Nat.beq xs.length n then Cs.es ys else Cs.ds (xs.take o ++ ys.map .e ++ xs.drop (o + n))).d0 = _
   cases h : (Nat.beq o 0 && Nat.beq xs.length n) with
   | false => rfl
   | true =>
    rw [Bool.and_eq_true] at h
    obtain rfl := Nat.eq_of_beq_eq_true h.1
    have := Nat.eq_of_beq_eq_true h.2
    simp [Cs.d0, <-this]
def zFi (T : Nat -> Option TI) (fs : List (Nat × Nat)) : List (Nat × D) -> Cs -> Option (Prop × Cs)
 | [], c => some (True, c)
 | (i, d) :: r, c =>
  match fs[i]?, d.cs? with
  | some (o, ft), some x =>
   match T ft with
   | some ti =>
    match zFi T fs r (c.put o ti.size x) with
    | some (φ, c') => some ((x.len = ti.size /\ o + ti.size <= c.len) /\ φ, c')
    | none => none
   | none => none
  | _, _ => none
def zFj (sz : Nat) : List (Nat × D) -> Cs -> Option (Prop × Cs)
 | [], c => some (True, c)
 | (i, d) :: r, c =>
  match d.cs? with
  | some x =>
   match zFj sz r (c.put (i * sz) sz x) with
   | some (φ, c') => some ((x.len = sz /\ i * sz + sz <= c.len) /\ φ, c')
   | none => none
  | none => none
def zIX (T : Nat -> Option TI) (t : Nat) (ps : List (Nat × D)) : Option Ef :=
 match T t with
 | some ⟨_, _, .struct fs, z⟩ => bif fs.all (fun q => (T q.2).isSome) then (zFi T fs ps (zCR z)).map fun r => ⟨r.1, .agg r.2, []⟩ else none
 | some ⟨_, _, .arr _ e, z⟩ =>
  match T e with
  | some ti => (zFj ti.size ps (zCR z)).map fun r => ⟨r.1, .agg r.2, []⟩
  | none => none
 | _ => none
def zCr (m : Mem) (sz : Nat) : Nat -> List (Nat × D) -> Option (Prop × List (List E) × zBa)
 | _, [] => some (True, [], [])
 | k, (i, d) :: r =>
  bif Nat.beq i k then
   match d.cs? with
   | some c =>
    match zNt m c, zCr m sz (k + 1) r with
    | some (es, u), some (φ, xs, us) => some (es.length = sz /\ φ, es :: xs, u ++ us)
    | _, _ => none
   | none => none
  else none
def zCp (s : ByteArray) : List (List E) := s.data.toList.map fun b => [.v (.int .u8 (b.toNat : Int))]
def zIg (m : Mem) (k : K) (sz : Nat) (d : D) : Option (Prop × List (List E)) :=
 match k, d with
 | .slice _, .one (.e (.sl ys)) => some (∀ cs ∈ ys, cs.length = sz, ys)
 | .slice _, .one .nil => some (True, [])
 | .slice _, .one (.own id ver) => match m id with
  | some ⟨bv, .row z ys, _⟩ => bif Nat.beq bv ver && Nat.beq z sz then some (True, ys) else none
  | _ => none
 | .slice _, .one (.bsl id ver off z n) => match m id with
  | some ⟨bv, .box (.es cs), _⟩ => bif Nat.beq bv ver && Nat.beq z sz then some (True, zBo z n (cs.drop off)) else none
  | _ => none
 | .str, .one (.e (.v (.string s))) => bif Nat.beq sz 1 then some (True, zCp s) else none
 | _, _ => none
def zDu (T : Nat -> Option TI) (m : Mem) (id : Nat) (t tx : Nat) (x y : D) : Option Ef :=
 match T t, T tx with
 | some ⟨_, _, .slice e, _⟩, some tix =>
  match T e, zIg m tix.k (match T e with | some ti => ti.size | none => 0) y with
  | some ti, some (φ, ys) =>
   bif Nat.beq ti.size 0 then none else
   match x with
   | .one .nil => some ⟨φ /\ ys.length <= maxLen /\ ys.length * ti.bytes <= 140737488355328, .one (.own id (zDd m id)), [(id, ⟨zDd m id, .row ti.size ys, 0⟩)]⟩
   | .one (.own id' ver) =>
    match m id' with
    | some ⟨bv, .row z xs, pub⟩ =>
     bif Nat.beq bv ver && Nat.beq z ti.size then
      some ⟨φ /\ xs.length + ys.length <= maxLen /\ (xs.length + ys.length) * ti.bytes <= 140737488355328, .one (.own id' (ver + 1)), [(id', ⟨ver + 1, .row z (xs ++ ys), pub⟩)]⟩
     else none
    | _ => none
   | _ => none
  | _, _ => none
 | _, _ => none
def zF0 (xs : List (List E)) (i j n : Nat) (ys : List E) : List (List E) :=
 xs.set i ((xs.getD i []).take j ++ ys ++ (xs.getD i []).drop (j + n))
def zEq (ti : TI) (m : Mem) (a x : D) : Option Ef :=
 match x.cs? with
 | none => none
 | some c =>
  match a with
  | .one (.ptr id ver off) =>
   match m id with
   | some ⟨bv, .box b, pub⟩ => bif Nat.beq bv ver then some ⟨c.len = ti.size /\ off + ti.size <= b.len /\ pub <= off, .any, [(id, ⟨bv, .box (b.put off ti.size c), pub⟩)]⟩ else none
   | _ => none
  | .one (.rptr id ver i j) =>
   match m id, zNt m c with
   | some ⟨bv, .row z xs, pub⟩, some (es, us) =>
    bif Nat.beq bv ver && us.all (fun u => !Nat.beq u.1 id) then
     some ⟨es.length = ti.size /\ j + ti.size <= z /\ i < xs.length /\ pub <= i * z + j, .any, us ++ [(id, ⟨bv, .row z (zF0 xs i j ti.size es), pub⟩)]⟩
    else none
   | _, _ => none
  | _ => none
def zFJ (T : Nat -> Option TI) (m : Mem) (t tx : Nat) (x y : D) : Option Ef :=
 match T t, T tx, x with
 | some ⟨_, _, .slice e, _⟩, some tix, .one (.bsl id ver off z n) =>
  match T e, m id, zIg m tix.k z y with
  | some ti, some ⟨bv, .box b, pub⟩, some (φ, ys) =>
   bif Nat.beq bv ver && Nat.beq ti.size z then
    some ⟨φ /\ pub <= off, .v (.int .i64 ((min n ys.length : Nat) : Int)), [(id, ⟨bv, .box (b.put off (min n ys.length * z) (.es (ys.take (min n ys.length)).flatten)), pub⟩)]⟩
   else none
  | _, _, _ => none
 | _, _, _ => none
def zFG (T : Nat -> Option TI) (m : Mem) (id : Nat) (t : Nat) (l c : D) : Option Ef :=
 match T t, l, c with
 | some ⟨_, _, .slice e, _⟩, .one (.e (.v (.int _ n))), .one (.e (.v (.int _ k))) =>
  match T e with
  | some ti =>
   match zNt m (zCR ti.zero) with
   | some (es, []) => bif Nat.beq ti.size 0 then none else
    some ⟨0 <= n /\ n <= k /\ k * ti.bytes <= 140737488355328 /\ k <= 140737488355328 /\ es.length = ti.size, .one (.own id (zDd m id)), [(id, ⟨zDd m id, .row ti.size (List.replicate n.toNat es), 0⟩)]⟩
   | _ => none
  | none => none
 | _, _, _ => none
def zBM (T : Nat -> Option TI) (m : Mem) (id t len : Nat) (ds : List (Nat × D)) : Option Ef :=
 match T t with
 | some ⟨_, _, .slice e, _⟩ =>
  match T e with
  | some ti =>
   match zCr m ti.size 0 ds with
   | some (φ, xs, us) =>
    bif Nat.beq ti.size 0 || !Nat.beq ds.length len || !(us.all fun u => !Nat.beq u.1 id) then none else
    some ⟨φ /\ len * ti.size <= 16777216 /\ len <= 16777216, .one (.own id (zDd m id)), us ++ [(id, ⟨zDd m id, .row ti.size xs, 0⟩)]⟩
   | none => none
  | none => none
 | _ => none
def zEs (T : Nat -> Option TI) (m : Mem) (id s d : Nat) (x : D) : Option Ef :=
 match T s, T d, x with
 | some ⟨_, _, .str, _⟩, some ⟨_, _, .slice e, _⟩, .one (.e (.v (.string str))) =>
  match T e with
  | some ⟨1, _, .int .u8, _⟩ => some ⟨str.size <= maxLen, .one (.own id (zDd m id)), [(id, ⟨zDd m id, .row 1 (zCp str), 0⟩)]⟩
  | _ => none
 | _, _, _ => none
def zHA (T : Nat -> Option TI) (m : Mem) (t i v : Nat) (lo hi : Option D) : Option Ef :=
 match lo, hi, T t, m i with
 | none, some (.one (.e (.v (.int _ n)))), some ⟨_, _, .slice e, _⟩, some ⟨bv, .row z xs, 0⟩ =>
  match T e with
  | some ti => bif Nat.beq bv v && Nat.beq z ti.size then some ⟨0 <= n /\ n <= xs.length, .one (.own i (v + 1)), [(i, ⟨v + 1, .row z (xs.take n.toNat), 0⟩)]⟩ else none
  | none => none
 | _, _, _, _ => none
def zDq (T : Nat -> Option TI) (m : Mem) (t : Nat) (x : D) (lo hi : Option D) : Option Ef :=
 match x with
 | .one (.own i v) =>
  match zHA T m t i v lo hi with
  | some ef => some ef
  | none =>
   match frz m (.own i v) with
   | some (e, us) => (zEr T t (.one (.e e)) lo hi).map fun r => ⟨r.1, r.2, us⟩
   | none => none
 | .one .nil => (zEr T t (.one (.e (.sl []))) lo hi).map fun r => ⟨r.1, r.2, []⟩
 | .one (.ptr id ver off) =>
  match T t with
  | some ⟨_, _, .arr len e, _⟩ =>
   match T e, zFy lo, zLb hi len, m id with
   | some ti, some l, some h, some ⟨bv, .box c, _⟩ =>
    bif Nat.beq bv ver then some ⟨0 <= l /\ l < len /\ l <= h /\ h <= len /\ off + len * ti.size <= c.len /\ len <= 16777216 /\ 0 < ti.size, .one (.bsl id ver (off + l.toNat * ti.size) ti.size (h - l).toNat), []⟩ else none
   | _, _, _, _ => none
  | _ => none
 | _ => none
def zLT (s : ByteArray) : Nat -> Nat -> List (Nat × Nat)
 | 0, _ => []
 | f + 1, pos => if pos < s.size then Utf8.decode s pos :: zLT s f (pos + (Utf8.decode s pos).2) else []
def zSn (s : ByteArray) : List (Nat × Nat) := zLT s s.size 0
def zGo (T : Nat -> Option TI) (m : Mem) (id t : Nat) (x : D) : Option Ef :=
 match T t, x with
 | some ⟨_, _, .str, _⟩, .one (.e (.v (.string s))) => some ⟨True, .one (.ptr id (zDd m id) 0), [(id, ⟨zDd m id, .raw (.iter s 0 (zSn s)), 0⟩)]⟩
 | _, _ => none
def zFF (m : Mem) (x : D) : Option Ef :=
 match x with
 | .one (.ptr id ver 0) =>
  match m id with
  | some ⟨bv, .raw (.iter s pos l), 0⟩ =>
   bif Nat.beq bv ver then
    match l with
    | [] => some ⟨True, .tup [(false, .es [.v (.bool false)])], []⟩
    | (c, n) :: r => some ⟨True, .tup [(false, .es [.v (.bool true)]), (false, .es [.v (.int .i64 (pos : Int))]), (false, .es [.v (.int .i32 (c : Int))])], [(id, ⟨bv, .raw (.iter s (pos + n) r), 0⟩)]⟩
   else none
  | _ => none
 | _ => none
def zDr (T : Nat -> Option TI) (m : Mem) (t : Nat) (x i y : D) : Option Ef :=
 match T t, x, i, y with
 | some ⟨_, _, .map k _, _⟩, .one (.hnd id ver), .one (.e (.v (.string s))), .one (.e (.v (.int .i64 n))) =>
  match T k, m id with
  | some ⟨_, _, .str, _⟩, some ⟨bv, .raw (.smap l), 0⟩ => bif Nat.beq bv ver then some ⟨True, .any, [(id, ⟨bv, .raw (.smap (zNS l s n)), 0⟩)]⟩ else none
  | _, _ => none
 | _, _, _, _ => none
def zKl : List D -> Option (List (Nat × Nat × Nat))
 | [] => some []
 | .one (.ptr i v o) :: r => match zKl r with
  | some cs => some ((i, v, o) :: cs)
  | none => none
 | _ => none
def zKb (T : Nat -> Option TI) (m : Mem) (id : Nat) (op : Op) (ev : Ev) : Option Ef :=
 match op with
 | .box _ x =>
  match (ev x).cs? with
  | some c => some ⟨True, .one (.ptr id (zDd m id) 0), [(id, ⟨zDd m id, .box c, 0⟩)]⟩
  | none => none
 | .alloc t =>
  match T t with
  | some ti => some ⟨True, .one (.ptr id (zDd m id) 0), [(id, ⟨zDd m id, .box (zCR ti.zero), 0⟩)]⟩
  | none => none
 | .build t ps => zIX T t (ps.toList.map fun p => (p.1, ev p.2))
 | .buildSlice t len ps => zBM T m id t len (ps.toList.map fun p => (p.1, ev p.2))
 | .store t a x =>
  match T t with
  | some ti => zEq ti m (ev a) (ev x)
  | none => none
 | .call ⟨.builtin .append, args, ts⟩ =>
  match args.toList, ts.toList with
  | [x, y], [t, tx] => zDu T m id t tx (ev x) (ev y)
  | _, _ => none
 | .call ⟨.builtin .copy, args, ts⟩ =>
  match args.toList, ts.toList with
  | [x, y], [t, tx] => zFJ T m t tx (ev x) (ev y)
  | _, _ => none
 | .convert s d x => zEs T m id s d (ev x)
 | .slice t x lo hi none => zDq T m t (ev x) (lo.map ev) (hi.map ev)
 | .makeSlice t l c => zFG T m id t (ev l) (ev c)
 | .range t x => zGo T m id t (ev x)
 | .next x true => zFF m (ev x)
 | .makeMap _ none => some ⟨True, .one (.hnd id (zDd m id)), [(id, ⟨zDd m id, .raw (.smap []), 0⟩)]⟩
 | .mapUpdate t x i y => zDr T m t (ev x) (ev i) (ev y)
 | .makeFunc (.func f) first caps =>
  match first.toList, caps.toList, zKl (caps.toList.map ev), zKl (first.toList.map ev) with
  | [], _, some cs, _ => bif Nat.ble 1048576 f then none else some ⟨True, .one (.clo f cs), []⟩
  | _ :: _, [], _, some cs => some ⟨True, .one (.clo (1048576 + f) cs), []⟩
  | _, _, _, _ => none
 | _ => none
def eff (T : Nat -> Option TI) (m : Mem) (id : Nat) (op : Op) (ev : Ev) : Option Ef :=
 match zIP T m op ev with
 | some (φ, d) => some ⟨φ, d, []⟩
 | none => zKb T m id op ev
section
variable {P : Program} {T : Nat -> Option TI} {X : Ctx} {p : Rho} {w : World} {C : Nat -> Nat -> Value -> Prop}
theorem zKk {v : Value} (h : v.oneCell' = true) : v.cells = #[v] := by cases v <;> first | rfl | cases h
theorem zJB {d : D} {c : Cs} {v : Value} (h : zAy p C w d v) (hc : d.cs? = some c) : zBA p C w c.d0 v.cells.toList := by
 unfold D.cs? at hc
 split at hc
 ·rename_i x
  cases hc
  have h1 : zCQ p C w (.e x) v := h
  rw [zKk h1.one]
  refine ⟨rfl, fun i y u hy hu => ?_⟩
  cases i with
  | zero => simp [Cs.d0] at hy hu; subst hy; subst hu; exact h1
  | succ i => simp [Cs.d0] at hy
 ·rename_i x _
  cases hc
  have h1 : zCQ p C w x v := h
  rw [zKk h1.one]
  refine ⟨rfl, fun i y u hy hu => ?_⟩
  cases i with
  | zero => simp [Cs.d0] at hy hu; subst hy; subst hu; exact h1
  | succ i => simp [Cs.d0] at hy
 ·rename_i c'
  cases hc
  obtain ⟨vs, rfl, h2⟩ := h
  exact h2
 ·cases hc
theorem zGc {xs : List D0} {vs : List Value} (h : zBA p C w xs vs) : ∀ u ∈ vs, u.oneCell' = true := by
 intro u hu
 obtain ⟨i, hi⟩ := List.mem_iff_getElem?.1 hu
 have : i < xs.length := by rw [h.1]; exact (List.getElem?_eq_some_iff.1 hi).1
 exact (h.2 i _ u (List.getElem?_eq_getElem this) hi).one
theorem zTx {v : Value} (h : v.oneCell' = true) : zCQ p C w (zD v) v := by
 unfold zD
 split
 ·rfl
 ·exact RepE.v _ h
theorem zD9 {vs : List Value} (h : ∀ u ∈ vs, u.oneCell' = true) : zBA p C w (zCR vs).d0 vs := by
 unfold zCR
 cases vs.any zIy with
 | true =>
  refine ⟨by simp [Cs.d0], fun i x u h1 h2 => ?_⟩
  simp only [Cs.d0, cond_true, List.getElem?_map, Option.map_eq_some_iff] at h1
  obtain ⟨u', h3, rfl⟩ := h1
  rw [h2] at h3
  cases h3
  exact zTx (h _ (List.mem_of_getElem? h2))
 | false =>
  refine ⟨by simp [Cs.d0], fun i x u h1 h2 => ?_⟩
  simp only [Cs.d0, cond_false, List.map_map, List.getElem?_map, Option.map_eq_some_iff] at h1
  obtain ⟨u', h3, rfl⟩ := h1
  rw [h2] at h3
  cases h3
  exact RepE.v _ (h _ (List.mem_of_getElem? h2))
theorem zAZ {xs ys : List D0} {us vs : List Value} (h1 : zBA p C w xs us) (h2 : zBA p C w ys vs) : zBA p C w (xs ++ ys) (us ++ vs) := by
 refine ⟨by simp [h1.1, h2.1], fun i x u hx hu => ?_⟩
 by_cases hi : i < xs.length
 ·rw [List.getElem?_append_left hi] at hx
  rw [List.getElem?_append_left (by rw [<-h1.1]; exact hi)] at hu
  exact h1.2 i x u hx hu
 ·rw [List.getElem?_append_right (by omega)] at hx
  rw [List.getElem?_append_right (by rw [<-h1.1]; omega), <-h1.1] at hu
  exact h2.2 _ x u hx hu
theorem zDj {xs : List D0} {vs : List Value} (h : zBA p C w xs vs) (n : Nat) : zBA p C w (xs.take n) (vs.take n) := by
 have := zLZ h 0 n
 simpa using this
theorem zDW {xs : List D0} {vs : List Value} (h : zBA p C w xs vs) (n : Nat) : zBA p C w (xs.drop n) (vs.drop n) := by
 refine ⟨by simp [h.1], fun i x u h1 h2 => ?_⟩
 rw [List.getElem?_drop] at h1 h2
 exact h.2 _ _ _ h1 h2
theorem zMt (o : Nat) : ∀ (l : List Value) (k : Nat) (cs : Array Value), o + k + l.length <= cs.size ->
  ((l.zipIdx k).foldl (fun cs (q : Value × Nat) => cs.setIfInBounds (o + q.2) q.1) cs).toList = cs.toList.take (o + k) ++ l ++ cs.toList.drop (o + k + l.length)
 | [], k, cs, _ => by simp
 | x :: l, k, cs, h => by
  simp only [List.length_cons] at h
  rw [List.zipIdx_cons, List.foldl_cons, zMt o l (k + 1) _ (by simp; omega)]
  have hn : (cs.toList.take (o + k)).length = o + k := by simp; omega
  simp only [Array.toList_setIfInBounds, List.length_cons]
  rw [List.set_eq_take_append_cons_drop, if_pos (by simp; omega)]
  rw [show o + (k + 1) = o + k + 1 by omega, List.take_append, List.drop_append, hn]
  rw [show o + k + 1 - (o + k) = 1 by omega, show o + k + 1 + l.length - (o + k) = l.length + 1 by omega, List.take_of_length_le (by omega), List.drop_of_length_le (l := cs.toList.take (o + k)) (by omega)]
  simp [List.drop_drop]
  congr 1
  omega
theorem zIJ {place : Nat -> Option (Nat × Nat)} {cells : Array Value} {i off size : Nat} {v : Value} {rest : List (Nat × Value)} (hp : place i = some (off, size)) (hv : v.cells.size = size) (hb : off + size <= cells.size) :
  ∃ cs' : Array Value, Instr.fill place cells ((i, v) :: rest) = Instr.fill place cs' rest /\ cs'.toList = cells.toList.take off ++ v.cells.toList ++ cells.toList.drop (off + size) := by
 refine ⟨v.cells.zipIdx.foldl (fun cs (c, j) => cs.setIfInBounds (off + j) c) cells, ?_, ?_⟩
 ·rw [Instr.fill, hp]
  simp only
  rw [if_neg (by simp [hv]; omega)]
 ·have := zMt off v.cells.toList 0 cells (by simp [hv]; omega)
  rw [<-Array.foldl_toList]
  simp only [Array.toList_zipIdx]
  simpa [hv] using this
def zHi (p : Rho) (C : Nat -> Nat -> Value -> Prop) (w : World) : List (Nat × D) -> List (Nat × Value) -> Prop
 | [], [] => True
 | (i, d) :: r, (j, v) :: s => i = j /\ zAy p C w d v /\ zHi p C w r s
 | _, _ => False
theorem zHd (hT : TOk P T) {fs : List (Nat × Nat)} {place : Nat -> Option (Nat × Nat)} (hp : ∀ i o ft ti, fs[i]? = some (o, ft) -> T ft = some ti -> place i = some (o, ti.size)) :
  ∀ (ps : List (Nat × D)) (vs : List (Nat × Value)) (c : Cs) (cells : Array Value) {φ : Prop} {c' : Cs}, zHi p C w ps vs -> zBA p C w c.d0 cells.toList -> zFi T fs ps c = some (φ, c') -> φ ->
  ∃ out, Instr.fill place cells vs = some out /\ zBA p C w c'.d0 out.toList
 | [], [], c, cells, φ, c', _, hr, h, _ => by cases h; exact ⟨cells, rfl, hr⟩
 | (i, d) :: r, [], _, _, _, _, hps, _, _, _ => by cases hps
 | [], _ :: _, _, _, _, _, hps, _, _, _ => by cases hps
 | (i, d) :: r, (j, v) :: s, c, cells, φ, c', hps, hr, h, hφ => by
  obtain ⟨rfl, hd, hrs⟩ := hps
  rw [zFi] at h
  split at h
  ·rename_i o ft x hf hx
   split at h
   ·rename_i ti hti
    split at h
    ·rename_i φ' c'' he
     cases h
     obtain ⟨⟨f1, f2⟩, f3⟩ := hφ
     have hv := zJB hd hx
     have hsz : v.cells.size = ti.size := by
      have := hv.1
      rw [Cs.len_eq, f1] at this
      simpa using this.symm
     have hcl : cells.size = c.len := by
      have := hr.1
      rw [Cs.len_eq] at this
      simpa using this.symm
     obtain ⟨cs', h1, h2⟩ := zIJ (cells := cells) (rest := s) (hp i o ft ti hf hti) hsz (by omega)
     rw [h1]
     refine zHd hT hp r s (c.put o ti.size x) cs' hrs ?_ he f3
     rw [h2, Cs.put_d0]
     exact zAZ (zAZ (zDj hr _) hv) (zDW hr _)
    ·cases h
   ·cases h
  ·cases h
theorem zHe {sz : Nat} :
  ∀ (ps : List (Nat × D)) (vs : List (Nat × Value)) (c : Cs) (cells : Array Value) {φ : Prop} {c' : Cs}, zHi p C w ps vs -> zBA p C w c.d0 cells.toList -> zFj sz ps c = some (φ, c') -> φ ->
  ∃ out, Instr.fill (fun i => some (i * sz, sz)) cells vs = some out /\ zBA p C w c'.d0 out.toList
 | [], [], c, cells, φ, c', _, hr, h, _ => by cases h; exact ⟨cells, rfl, hr⟩
 | (i, d) :: r, [], _, _, _, _, hps, _, _, _ => by cases hps
 | [], _ :: _, _, _, _, _, hps, _, _, _ => by cases hps
 | (i, d) :: r, (j, v) :: s, c, cells, φ, c', hps, hr, h, hφ => by
  obtain ⟨rfl, hd, hrs⟩ := hps
  rw [zFj] at h
  split at h
  ·rename_i x hx
   split at h
   ·rename_i φ' c'' he
    cases h
    obtain ⟨⟨f1, f2⟩, f3⟩ := hφ
    have hv := zJB hd hx
    have hsz : v.cells.size = sz := by
     have := hv.1
     rw [Cs.len_eq, f1] at this
     simpa using this.symm
    have hcl : cells.size = c.len := by
     have := hr.1
     rw [Cs.len_eq] at this
     simpa using this.symm
    obtain ⟨cs', h1, h2⟩ := zIJ (cells := cells) (place := fun i => some (i * sz, sz)) (rest := s) (i := i) rfl hsz (by omega)
    rw [h1]
    refine zHe r s (c.put (i * sz) sz x) cs' hrs ?_ he f3
    rw [h2, Cs.put_d0]
    exact zAZ (zAZ (zDj hr _) hv) (zDW hr _)
   ·cases h
  ·cases h
theorem zE1 {ev : Ev} {ρ : Operand -> Value} : ∀ (ps : List (Nat × Operand)), (∀ q ∈ ps, zAy p C w (ev q.2) (ρ q.2)) -> zHi p C w (ps.map fun q => (q.1, ev q.2)) (ps.map fun q => (q.1, ρ q.2))
 | [], _ => trivial
 | q :: r, h => ⟨rfl, h q (by simp), zE1 r fun q hq => h q (by simp [hq])⟩
theorem zD8 {t : Nat} {ti : TI} (h : TIOk P t ti) : ∃ z, (zeroValue t).run P w = .ok z w /\ z.cells.toList = ti.zero := by
 obtain ⟨i, d, z, h1, h2, h3, h4, h5, h6, h7, h8⟩ := h.out
 exact ⟨z, by simp [zeroValue, typeInfo, h1, h6], h7⟩
theorem zF9 {t : Nat} {ti : TI} (h : TIOk P t ti) : ∀ u ∈ ti.zero, u.oneCell' = true := by
 obtain ⟨i, d, z, h1, h2, h3, h4, h5, h6, h7, h8⟩ := h.out
 exact h8
theorem zGN (hT : TOk P T) : ∀ (F : List Field), (∀ f ∈ F, ∃ n, (sizeOf f.type).run P w = .ok n w) ->
  ∃ pl : List (Nat × Nat), (F.mapM fun (f : Field) => do pure (f.offset, <-sizeOf f.type) : Sem (List (Nat × Nat))).run P w = .ok pl w /\ pl.length = F.length /\ ∀ (i : Nat) (f : Field), F[i]? = some f -> ∃ n, (sizeOf f.type).run P w = .ok n w /\ pl[i]? = some (f.offset, n)
 | [], _ => ⟨[], by simp, rfl, fun i f h => by simp at h⟩
 | f :: F, h => by
  obtain ⟨n, hn⟩ := h f (by simp)
  obtain ⟨pl, h1, h2, h3⟩ := zGN hT F fun g hg => h g (by simp [hg])
  refine ⟨(f.offset, n) :: pl, by rw [List.mapM_cons]; simp only [Sem.run_bind, Sem.run_pure, Result.andThen_ok, hn, h1], by simp [h2], fun i g hg => ?_⟩
  cases i with
  | zero => simp at hg; subst hg; exact ⟨n, hn, rfl⟩
  | succ i => exact h3 i g (by simpa using hg)
theorem zNL (hT : TOk P T) {t : Nat} {ps : Array (Nat × Operand)} {ev : Ev} {ρ : Operand -> Value} (hρ : ∀ q ∈ ps.toList, zAy p C w (ev q.2) (ρ q.2)) {ef : Ef} (h : zIX T t (ps.toList.map fun q => (q.1, ev q.2)) = some ef) (hφ : ef.φ) :
  ef.upds = [] /\ ∃ v, (Instr.build t (ps.map fun (i, x) => (i, ρ x))).run P w = .ok v w /\ zAy p C w ef.val v := by
 have hmap : (ps.map fun (i, x) => (i, ρ x)).toList = ps.toList.map fun q => (q.1, ρ q.2) := by simp
 have hps := zE1 (p := p) (C := C) (w := w) ps.toList hρ
 unfold zIX at h
 split at h
 ·rename_i a b fs z ht
  obtain ⟨F, hF, hfs⟩ := zDg hT ht
  cases hall : (fs.all fun q => (T q.2).isSome) with
  | false => simp [hall] at h
  | true =>
  simp only [hall, cond_true] at h
  have hsz : ∀ f ∈ F.toList, ∃ n, (sizeOf f.type).run P w = .ok n w := fun f hf => by
   have h1 := List.all_eq_true.1 hall (f.offset, f.type) (by rw [<-hfs]; exact List.mem_map.2 ⟨f, hf, rfl⟩)
   obtain ⟨ti, hti⟩ := Option.isSome_iff_exists.1 h1
   exact ⟨_, (hT _ _ hti).size w⟩
  rw [Option.map_eq_some_iff] at h
  obtain ⟨⟨φ, c⟩, h1, rfl⟩ := h
  obtain ⟨zv, hz1, hz2⟩ := zD8 (w := w) (hT _ _ ht)
  obtain ⟨pl, hp1, hp2, hp3⟩ := zGN (w := w) hT F.toList hsz
  have hmapM : (F.mapM fun (f : Field) => do pure (f.offset, <-sizeOf f.type) : Sem (Array (Nat × Nat))).run P w = .ok pl.toArray w := by
   rw [Array.mapM_eq_mapM_toList]
   simp only [Sem.run_map, hp1, Result.andThen_ok]
  have hrz : zBA p C w (zCR z).d0 zv.cells.toList := by rw [hz2]; exact zD9 (zF9 (hT _ _ ht))
  obtain ⟨out, ho1, ho2⟩ := zHd (place := (pl.toArray[·]?)) hT (fun i o ft ti hi hti => by
   obtain ⟨fd, k1, rfl, rfl⟩ := zIM hfs hi
   obtain ⟨n, k2, k3⟩ := hp3 i fd (by simpa using k1)
   have k4 := (hT _ _ hti).size w
   rw [k2] at k4
   cases k4
   simpa using k3) _ _ (zCR z) zv.cells hps hrz h1 hφ
  refine ⟨rfl, .agg out, ?_, out.toList, by simp, ho2⟩
  simp only [Instr.build, Sem.run_bind, hz1, run_underlying hF, Result.andThen_ok, Sem.run_pure, hmapM, hmap, ho1]
 ·rename_i a b n e z ht
  split at h
  ·rename_i ti hti
   rw [Option.map_eq_some_iff] at h
   obtain ⟨⟨φ, c⟩, h1, rfl⟩ := h
   have hu := zH4 hT ht
   obtain ⟨zv, hz1, hz2⟩ := zD8 (w := w) (hT _ _ ht)
   have hrz : zBA p C w (zCR z).d0 zv.cells.toList := by rw [hz2]; exact zD9 (zF9 (hT _ _ ht))
   obtain ⟨out, ho1, ho2⟩ := zHe _ _ (zCR z) zv.cells hps hrz h1 hφ
   refine ⟨rfl, .agg out, ?_, out.toList, by simp, ho2⟩
   simp only [Instr.build, Sem.run_bind, hz1, run_underlying hu, Result.andThen_ok, Sem.run_pure, (hT _ _ hti).size w, hmap, ho1]
  ·cases h
 ·cases h
end
section
variable {P : Program} {T : Nat -> Option TI} {X : Ctx} {w : World}
def zJa (m : Mem) (us : zBa) : Prop := ∀ u ∈ us, ∃ b, m u.1 = some b /\ u.2 = ⟨b.ver, b.body, b.cells.length⟩
theorem RM.pub_le {p : Rho} (h : RM X p w) {id : Nat} {b : Blk} (hb : p.mem id = some b) : b.pub <= b.cells.length := by
 have := h.blk id b hb
 unfold zAP at this
 split at this
 ·rw [this.2.1]; exact Nat.zero_le _
 ·exact this.2.2.2.1
theorem zC0 (m : Mem) (u : Nat × Blk) (us : zBa) : zBd m (u :: us) = zBd (upd m u.1 (some u.2)) us := rfl
theorem zDG (m : Mem) (us vs : zBa) : zBd m (us ++ vs) = zBd (zBd m us) vs := by simp [zBd, List.foldl_append]
theorem RM.pubs {μ : Nat -> Option Nat} : ∀ (us : zBa) (m : Mem), RM X ⟨m, μ⟩ w -> zJa m us ->
  RM X ⟨zBd m us, μ⟩ w /\ Kept ⟨m, μ⟩ (CW X ⟨m, μ⟩ w) w ⟨zBd m us, μ⟩ (CW X ⟨zBd m us, μ⟩ w) w /\ (∀ u ∈ us, zBd m us u.1 = some u.2) /\ ∀ id, (∀ u ∈ us, u.1 ≠ id) -> zBd m us id = m id
 | [], m, h, _ => ⟨h, Kept.rfl', (fun u hu => nomatch hu), fun _ _ => rfl⟩
 | u :: us, m, h, hp => by
  obtain ⟨b, hb, hu⟩ := hp u (by simp)
  have h1 := h.pub (id := u.1) (n := b.cells.length) hb (h.pub_le hb) (Nat.le_refl _)
  have hp' : zJa (upd m u.1 (some u.2)) us := fun v hv => by
   obtain ⟨c, hc, hv'⟩ := hp v (by simp [hv])
   by_cases hi : v.1 = u.1
   ·rw [hi, hb] at hc
    cases hc
    exact ⟨u.2, by rw [hi, zAn], by rw [hv', hu]; rfl⟩
   ·exact ⟨c, by rw [zAB _ _ hi]; exact hc, hv'⟩
  rw [<-hu] at h1
  obtain ⟨k1, k2, k3, k4⟩ := RM.pubs us _ h1.1 hp'
  refine ⟨k1, h1.2.trans k2, fun v hv => ?_, fun id hid => ?_⟩
  ·rw [zC0]
   by_cases hmem : ∃ v' ∈ us, v'.1 = v.1
   ·obtain ⟨v', hv', e⟩ := hmem
    have := k3 v' hv'
    rw [e] at this
    rw [this]
    obtain ⟨c, hc, e1⟩ := hp v' (by simp [hv'])
    obtain ⟨c', hc', e2⟩ := hp v hv
    rw [e, hc'] at hc
    cases hc
    rw [e1, e2]
   ·rcases List.mem_cons.1 hv with rfl | hv
    ·rw [k4 _ (fun v' hv' e => hmem ⟨v', hv', e⟩), zAn]
    ·exact absurd ⟨v, hv, rfl⟩ hmem
  ·rw [zC0, k4 id (fun v hv => hid v (by simp [hv])), zAB _ _ (Ne.symm (hid u (by simp)))]
theorem zMr {m : Mem} {x : D0} {e : E} {us : zBa} (h : frz m x = some (e, us)) : zJa m us := by
 unfold frz at h
 split at h
 ·cases h; exact fun u hu => by cases hu
 ·cases h; exact fun u hu => by cases hu
 ·rename_i id ver
  split at h
  ·rename_i bv z xs pub hb
   cases hv : Nat.beq bv ver with
   | false => simp [hv] at h
   | true =>
    simp only [hv, cond_true, Option.some.injEq, Prod.mk.injEq] at h
    obtain ⟨rfl, rfl⟩ := h
    intro u hu
    simp at hu
    subst hu
    exact ⟨_, hb, rfl⟩
  ·cases h
 ·rename_i id ver off z n
  split at h
  ·rename_i bv cs pub hb
   cases hv : Nat.beq bv ver with
   | false => simp [hv] at h
   | true =>
    simp only [hv, cond_true, Option.some.injEq, Prod.mk.injEq] at h
    obtain ⟨rfl, rfl⟩ := h
    intro u hu
    simp at hu
    subst hu
    exact ⟨_, hb, rfl⟩
  ·cases h
 ·rename_i id ver off
  split at h
  ·rename_i bv cs pub hb
   cases hv : Nat.beq bv ver with
   | false => simp [hv] at h
   | true =>
    simp only [hv, cond_true, Option.some.injEq, Prod.mk.injEq] at h
    obtain ⟨rfl, rfl⟩ := h
    intro u hu
    simp at hu
    subst hu
    exact ⟨_, hb, rfl⟩
  ·cases h
 ·cases h; exact fun u hu => by cases hu
 ·cases h
theorem zO4 {m : Mem} : ∀ {xs : List D0} {es : List E} {us : zBa}, zPP m xs = some (es, us) -> zJa m us
 | [], _, _, h => by cases h; exact fun u hu => by cases hu
 | x :: r, es, us, h => by
  rw [zPP] at h
  split at h
  ·rename_i e u es' us' h1 h2
   cases h
   intro v hv
   rcases List.mem_append.1 hv with hv | hv
   ·exact zMr h1 v hv
   ·exact zO4 h2 v hv
  ·cases h
theorem zIH {m : Mem} {c : Cs} {es : List E} {us : zBa} (h : zNt m c = some (es, us)) : zJa m us := by
 cases c with
 | es xs => cases h; exact fun u hu => by cases hu
 | ds xs => exact zO4 h
theorem zAz {z : Nat} : ∀ (xs : List (List E)), (∀ cs ∈ xs, cs.length = z) -> xs.flatten.length = xs.length * z
 | [], _ => by simp
 | x :: xs, h => by
  rw [List.flatten_cons, List.length_append, zAz xs (fun cs hc => h cs (by simp [hc])), h x (by simp), List.length_cons, Nat.succ_mul]
  omega
theorem zJA {p : Rho} (h : RM X p w) {id ver z pub : Nat} {xs : List (List E)} (hb : p.mem id = some ⟨ver, .row z xs, pub⟩) : 0 < z /\ ∀ cs ∈ xs, cs.length = z := by
 have := h.blk id _ hb
 unfold zAP at this
 split at this
 ·exact this.2.2
 ·exact this.1
theorem zQr {p : Rho} (h : RM X p w) {id ver z : Nat} {xs : List (List E)} (hb : p.mem id = some ⟨ver, .row z xs, (Body.row z xs).cells.length⟩) {v : Value} (hv : zCQ p (CW X p w) w (.own id ver) v) :
  RepE (CW X p w) (.sl xs) v := by
 obtain ⟨hz0, hz⟩ := zJA h hb
 obtain ⟨_, blk, h1, h2, h3⟩ := hv
 rw [hb] at h1
 cases h1
 obtain ⟨z', n', q1, q2, q3⟩ := h3 rfl
 simp only [Body.shape, Prod.mk.injEq] at q1
 obtain ⟨rfl, rfl⟩ := q1
 rcases q3 with ⟨q3, A, rfl⟩ | ⟨g, cap, g1, rfl, g3, g4, g5⟩
 ·have hx0 : xs = [] := List.eq_nil_of_length_eq_zero q3
  subst hx0
  exact RepE.sl A 0 0 z 0 0 (fun _ _ => undef) [] rfl (Nat.le_refl _) (Nat.zero_le _) (fun h => absurd h (by omega)) (fun cs hc => by cases hc) (fun i cs j e hi => by cases hi) (fun i cs j e hi => by cases hi)
 ·have hok := h.blk id _ hb
  simp only [zAP, g1] at hok
  obtain ⟨_, b1, b2, _⟩ := hok
  have key : ∀ i cs j e, xs[i]? = some cs -> cs[j]? = some e -> ∃ u, CW X p w g (0 + i * z + j) u /\ RepE (CW X p w) e u := fun i cs j e hi hj => by
   have hm := zK1 h hb g1 i
   have hgd : xs.getD i [] = cs := by simp [List.getD_eq_getElem?_getD, hi]
   rw [hgd] at hm
   obtain ⟨u, u1, u2⟩ := hm j (.e e) (by simp [Cs.d0, hj])
   refine ⟨u, ⟨by rw [Nat.zero_add]; exact u1, fun hno => absurd b1 hno, fun _ id' blk' m1 m2 => ?_⟩, u2⟩
   obtain rfl := b2 id' blk' m1 m2
   rw [hb] at m1
   cases m1
   have hil := (List.getElem?_eq_some_iff.1 hi).1
   have hjl := (List.getElem?_eq_some_iff.1 hj).1
   rw [hz _ (List.mem_of_getElem? hi)] at hjl
   simp only [Body.cells, List.length_map, zAz xs hz]
   have : (i + 1) * z <= xs.length * z := Nat.mul_le_mul_right _ hil
   rw [Nat.succ_mul] at this
   omega
  refine RepE.sl _ _ _ z g 0 (fun i j => (w.cell? ⟨g, 0 + i * z + j, none⟩).getD undef) xs rfl g3 g4 (fun _ => rfl) hz (fun i cs j e hi hj => ?_) (fun i cs j e hi hj => ?_)
  ·obtain ⟨u, k1, k2⟩ := key i cs j e hi hj
   rw [k1.1]
   exact k1
  ·obtain ⟨u, k1, k2⟩ := key i cs j e hi hj
   rw [k1.1]
   exact k2
theorem zQ5 {p : Rho} (h : RM X p w) {id ver off z n : Nat} {cs : List E} (hb : p.mem id = some ⟨ver, .box (.es cs), (Body.box (.es cs)).cells.length⟩) {v : Value} (hv : zCQ p (CW X p w) w (.bsl id ver off z n) v) :
  RepE (CW X p w) (.sl (zBo z n (cs.drop off))) v := by
 obtain ⟨_, blk, h1, h2, h3⟩ := hv
 rw [hb] at h1
 cases h1
 obtain ⟨z0, z1, g, cap, g1, rfl, g3, g4⟩ := h3 rfl
 simp only [Body.shape, Cs.d0, List.length_map] at z1
 have hok := h.blk id _ hb
 simp only [zAP, g1] at hok
 obtain ⟨_, b1, b2, _⟩ := hok
 have hfit : n * z <= (cs.drop off).length := by rw [List.length_drop]; omega
 have key : ∀ i ch j e, (zBo z n (cs.drop off))[i]? = some ch -> ch[j]? = some e -> ∃ u, CW X p w g (off + i * z + j) u /\ RepE (CW X p w) e u := fun i ch j e hi hj => by
  have hz := zG9 hfit _ (List.mem_of_getElem? hi)
  obtain ⟨hin, he⟩ := zEP hi
  have hjl := (List.getElem?_eq_some_iff.1 hj).1
  have hm := zI5 h hb g1 (off + i * z) z
  rw [<-List.drop_drop, <-he] at hm
  obtain ⟨u, u1, u2⟩ := hm j (.e e) (by simp [hj])
  refine ⟨u, ⟨u1, fun hno => absurd b1 hno, fun _ id' blk' m1 m2 => ?_⟩, u2⟩
  obtain rfl := b2 id' blk' m1 m2
  rw [hb] at m1
  cases m1
  have : (i + 1) * z <= n * z := Nat.mul_le_mul_right _ hin
  rw [Nat.succ_mul] at this
  simp only [Body.cells, Cs.d0, List.length_map]
  omega
 refine RepE.sl _ _ _ z g off (fun i j => (w.cell? ⟨g, off + i * z + j, none⟩).getD undef) _ zCW g3 g4 (fun _ => rfl) (zG9 hfit) (fun i ch j e hi hj => ?_) (fun i ch j e hi hj => ?_)
 ·obtain ⟨u, k1, k2⟩ := key i ch j e hi hj
  rw [k1.1]
  exact k1
 ·obtain ⟨u, k1, k2⟩ := key i ch j e hi hj
  rw [k1.1]
  exact k2
theorem zSV {p : Rho} {C : Nat -> Nat -> Value -> Prop} {w : World} {cs : List E} {v : Value} (hv : zCQ p C w (.eptr cs) v) : RepE C (.pt cs) v := by
 obtain ⟨b, o, rfl, h⟩ := hv
 classical
 have key : ∀ j, ∃ u, ∀ e, cs[j]? = some e -> C b (o + j) u /\ RepE C e u := fun j => by
  cases hj : cs[j]? with
  | none => exact ⟨undef, fun e he => nomatch he⟩
  | some e =>
   obtain ⟨u, h1, h2⟩ := h j e hj
   exact ⟨u, fun e' he => by cases he; exact ⟨h1, h2⟩⟩
 exact RepE.pt b o (fun j => Classical.choose (key j)) cs (fun j e he => (Classical.choose_spec (key j) e he).1) (fun j e he => (Classical.choose_spec (key j) e he).2)
theorem zL2 {p : Rho} {w : World} {X : Ctx} (h : RM X p w) {id ver off : Nat} {cs : List E} (hb : p.mem id = some ⟨ver, .box (.es cs), (Body.box (.es cs)).cells.length⟩) {p' : Rho} {v : Value} (hv : zCQ p (CW X p w) w (.ptr id ver off) v) :
  zCQ p' (CW X p w) w (.eptr (cs.drop off)) v := by
 obtain ⟨_, blk, h1, h2, h3⟩ := hv
 rw [hb] at h1
 cases h1
 obtain ⟨g, g1, rfl⟩ := h3 rfl
 have hok := h.blk id _ hb
 simp only [zAP, g1] at hok
 obtain ⟨_, b1, b2, _, cur, et, lo, hi, b4, b5, b6, b7⟩ := hok
 refine ⟨g, off, rfl, fun j e he => ?_⟩
 rw [List.getElem?_drop] at he
 obtain ⟨u, u1, u2⟩ := b7 (off + j) (.e e) (by simp [Blk.cells, Body.cells, Cs.d0, he])
 refine ⟨u, ⟨by rw [zCN b4]; exact u1, fun hno => absurd b1 hno, fun _ id' blk' m1 m2 => ?_⟩, u2⟩
 obtain rfl := b2 id' blk' m1 m2
 rw [hb] at m1
 cases m1
 have := (List.getElem?_eq_some_iff.1 he).1
 simpa [Body.cells, Cs.d0] using this
theorem zIG {m m' : Mem} {μ : Nat -> Option Nat} (h : RM X ⟨m', μ⟩ w) {x : D0} {e : E} {us : zBa} {v : Value} (hv : zCQ ⟨m', μ⟩ (CW X ⟨m', μ⟩ w) w x v) (hf : frz m x = some (e, us)) (hu : ∀ u ∈ us, m' u.1 = some u.2) :
  RepE (CW X ⟨m', μ⟩ w) e v := by
 unfold frz at hf
 split at hf
 ·cases hf; exact hv
 ·cases hf
  obtain rfl : v = .slice none 0 0 := hv
  exact RepE.sl none 0 0 0 0 0 (fun _ _ => undef) [] rfl (Nat.le_refl _) (Nat.zero_le _) (fun h => absurd h (by omega)) (fun cs hc => by cases hc) (fun i cs j e hi => by cases hi) (fun i cs j e hi => by cases hi)
 ·rename_i id ver
  split at hf
  ·rename_i bv z xs pub hb
   cases hbv : Nat.beq bv ver with
   | false => simp [hbv] at hf
   | true =>
    obtain rfl := Nat.eq_of_beq_eq_true hbv
    simp only [hbv, cond_true, Option.some.injEq, Prod.mk.injEq] at hf
    obtain ⟨rfl, rfl⟩ := hf
    exact zQr h (hu (id, ⟨bv, .row z xs, (Body.row z xs).cells.length⟩) (List.mem_singleton.2 rfl)) hv
  ·cases hf
 ·rename_i id ver off z n
  split at hf
  ·rename_i bv cs pub hb
   cases hbv : Nat.beq bv ver with
   | false => simp [hbv] at hf
   | true =>
    obtain rfl := Nat.eq_of_beq_eq_true hbv
    simp only [hbv, cond_true, Option.some.injEq, Prod.mk.injEq] at hf
    obtain ⟨rfl, rfl⟩ := hf
    exact zQ5 h (hu (id, ⟨bv, .box (.es cs), (Body.box (.es cs)).cells.length⟩) (List.mem_singleton.2 rfl)) hv
  ·cases hf
 ·rename_i id ver off
  split at hf
  ·rename_i bv cs pub hb
   cases hbv : Nat.beq bv ver with
   | false => simp [hbv] at hf
   | true =>
    obtain rfl := Nat.eq_of_beq_eq_true hbv
    simp only [hbv, cond_true, Option.some.injEq, Prod.mk.injEq] at hf
    obtain ⟨rfl, rfl⟩ := hf
    exact zSV (zL2 (p' := ⟨m', μ⟩) h (hu (id, ⟨bv, .box (.es cs), (Body.box (.es cs)).cells.length⟩) (List.mem_singleton.2 rfl)) hv)
  ·cases hf
 ·cases hf
  exact zSV hv
 ·cases hf
theorem zMs {m m' : Mem} {μ : Nat -> Option Nat} (h : RM X ⟨m', μ⟩ w) : ∀ {xs : List D0} {es : List E} {us : zBa} {vs : List Value}, zBA ⟨m', μ⟩ (CW X ⟨m', μ⟩ w) w xs vs -> zPP m xs = some (es, us) -> (∀ u ∈ us, m' u.1 = some u.2) ->
  zBA ⟨m', μ⟩ (CW X ⟨m', μ⟩ w) w (es.map .e) vs
 | [], _, _, vs, hr, hf, _ => by cases hf; exact hr
 | x :: r, es, us, [], hr, hf, hu => by have := hr.1; simp at this
 | x :: r, es, us, v :: vs, hr, hf, hu => by
  rw [zPP] at hf
  split at hf
  ·rename_i e u es' us' h1 h2
   cases hf
   have ih := zMs h (xs := r) (vs := vs) ⟨by simpa using hr.1, fun i y u hy hu => hr.2 (i + 1) y u (by simpa using hy) (by simpa using hu)⟩ h2 (fun u hu' => hu u (by simp [hu']))
   have h0 := zIG h (hr.2 0 x v rfl rfl) h1 (fun u hu' => hu u (by simp [hu']))
   refine ⟨by simp [ih.1], fun i y u hy hu => ?_⟩
   cases i with
   | zero => simp at hy hu; subst hy; subst hu; exact h0
   | succ i => exact ih.2 i y u (by simpa using hy) (by simpa using hu)
  ·cases hf
theorem zEm {m m' : Mem} {μ : Nat -> Option Nat} (h : RM X ⟨m', μ⟩ w) {c : Cs} {es : List E} {us : zBa} {vs : List Value} (hr : zBA ⟨m', μ⟩ (CW X ⟨m', μ⟩ w) w c.d0 vs) (hf : zNt m c = some (es, us)) (hu : ∀ u ∈ us, m' u.1 = some u.2) :
  zBA ⟨m', μ⟩ (CW X ⟨m', μ⟩ w) w (es.map .e) vs := by
 cases c with
 | es xs => cases hf; exact hr
 | ds xs => exact zMs h hr hf hu
def zJc (P : Program) (X : Ctx) (p : Rho) (w : World) (o : Oper) (ρ : Operand -> Value) (ef : Ef) : Prop :=
 ∃ v w' μ', ((execOp ρ o).run P w = .ok (.value v) w' \/ ((execOp ρ o).run P w = .ok .skip w' /\ v = undef)) ∧
  RM X ⟨zBd p.mem ef.upds, μ'⟩ w' /\ Kept p (CW X p w) w ⟨zBd p.mem ef.upds, μ'⟩ (CW X ⟨zBd p.mem ef.upds, μ'⟩ w') w' /\ zAy ⟨zBd p.mem ef.upds, μ'⟩ (CW X ⟨zBd p.mem ef.upds, μ'⟩ w') w' ef.val v
theorem zD0 {p : Rho} {id : Nat} : ∀ b, p.mem id = some b -> b.ver < zDd p.mem id := fun b hb => by simp [zDd, hb]
theorem zMG {p : Rho} (hR : RM X p w) {o : Oper} {ρ : Operand -> Value} {c : Cs} {vs : List Value} {t : TypeId} {id : Nat} (hr : zBA p (CW X p w) w c.d0 vs) (hrun : (execOp ρ o).run P w = .ok (.value (.pointer (some ⟨w.heap.size, 0, none⟩))) (w.alloc (.cells vs.toArray t))) :
  zJc P X p w o ρ ⟨True, .one (.ptr id (zDd p.mem id) 0), [(id, ⟨zDd p.mem id, .box c, 0⟩)]⟩ := by
 have h1 := hR.alloc (ob := vs.toArray) (t := t) (lo := 0) (hi := 0) (id := id) (blk := ⟨zDd p.mem id, .box c, 0⟩) (w.alloc (.cells vs.toArray t)) rfl rfl rfl rfl trivial (by omega) (by
   show c.d0.length <= _
   rw [hr.1]; simp) (Nat.zero_le _) zD0 (fun i x hx => by
   have hi : i < vs.length := by rw [<-hr.1]; exact (List.getElem?_eq_some_iff.1 hx).1
   exact ⟨vs[i], by simp [hi], hr.2 i x _ hx (List.getElem?_eq_getElem hi)⟩)
 exact ⟨_, _, _, .inl hrun, h1.1, h1.2, rfl, _, zAn _ _ _, Nat.le_refl _, fun _ => ⟨_, zAn _ _ _, rfl⟩⟩
end
section
variable {P : Program} {T : Nat -> Option TI} {X : Ctx} {w : World} {p : Rho}
theorem zLe {z : Nat} (xs : List (List E)) (hz : ∀ cs ∈ xs, cs.length = z) {k : Nat} {e : E} (h : xs.flatten[k]? = some e) :
  0 < z /\ xs[k / z]? = some (xs.getD (k / z) []) /\ (xs.getD (k / z) [])[k % z]? = some e /\ k = k / z * z + k % z := by
 have hk := (List.getElem?_eq_some_iff.1 h).1
 rw [zAz xs hz] at hk
 have hz0 : 0 < z := by
  rcases Nat.eq_zero_or_pos z with h0 | h0
  ·rw [h0] at hk; simp at hk
  ·exact h0
 have hlt : k / z < xs.length := Nat.div_lt_of_lt_mul (by rw [Nat.mul_comm]; exact hk)
 have he := Nat.div_add_mod k z
 have hm := Nat.mod_lt k hz0
 rw [Nat.mul_comm] at he
 have := zEp xs hz (k / z) (k % z) hm
 rw [he, h] at this
 exact ⟨hz0, getD_some hlt, this.symm, he.symm⟩
theorem zLY {C : Nat -> Nat -> Value -> Prop} (hC : ∀ b o u, C b o u -> w.cell? ⟨b, o, none⟩ = some u) {xs : List (List E)} {A : Option Addr} {n cap : Nat} (h : RepE C (.sl xs) (.slice A n cap)) (h0 : 0 < n) :
  ∃ b o, A = some ⟨b, o, none⟩ /\ zFP p C w b o (xs.flatten.map .e) := by
 obtain ⟨A', m, cap', z, b, o, U, he, hn, hc, hm, hA, hz, hC', hr⟩ := zDb h
 cases he
 refine ⟨b, o, hA h0, fun j x hx => ?_⟩
 simp only [List.getElem?_map, Option.map_eq_some_iff] at hx
 obtain ⟨e, h1, rfl⟩ := hx
 obtain ⟨z0, f1, f2, f3⟩ := zLe xs hz h1
 have h2 := hC _ _ _ (hC' _ _ _ _ f1 f2)
 exact ⟨U (j / z) (j % z), by rw [show o + j = o + j / z * z + j % z by omega]; exact h2, hr _ _ _ _ f1 f2⟩
theorem zGL {xs : List D0} {b o : Nat} {C : Nat -> Nat -> Value -> Prop} (hm : zFP p C w b o xs) {size n c : Nat} {tx e' : TypeId} (hk : P.underlying tx = some (.slice e')) (hl : xs.length = n * size) :
  ∃ news, Src P size tx (.slice (some ⟨b, o, none⟩) n c) n news w /\ zBA p C w xs news := by
 obtain ⟨vs, h1, h2⟩ := hm.list
 exact ⟨vs, Src.ofSlice w hk _ n c vs (by rw [<-h1.1, hl]) (fun j u hu => by rw [zCz]; exact h2 j u hu) (zGc h1), h1⟩
theorem zCs (s : ByteArray) : (zCp s).length = s.size := by simp [zCp]
theorem zDS {C : Nat -> Nat -> Value -> Prop} (s : ByteArray) : zBA p C w ((zCp s).flatten.map .e) (byteCells s) := by
 have hf : (zCp s).flatten.map D0.e = s.data.toList.map fun b => D0.e (.v (.int .u8 (b.toNat : Int))) := by
  unfold zCp
  induction s.data.toList with
  | nil => rfl
  | cons a l ih => simp [ih]
 rw [hf]
 unfold byteCells
 refine ⟨by simp, fun i x u h1 h2 => ?_⟩
 simp only [List.getElem?_map, Option.map_eq_some_iff] at h1 h2
 obtain ⟨b, k1, rfl⟩ := h1
 obtain ⟨b', k2, rfl⟩ := h2
 rw [k1] at k2
 cases k2
 exact RepE.v _ rfl
theorem zIf (hT : TOk P T) (hR : RM X p w) {sz tx : Nat} {tix : TI} (htx : T tx = some tix) {y : D} {vy : Value} {φ : Prop} {ys : List (List E)}
  (hy : zAy p (CW X p w) w y vy) (h : zIg p.mem tix.k sz y = some (φ, ys)) (hφ : φ) :
  (∀ cs ∈ ys, cs.length = sz) /\ (∃ news, Src P sz tx vy ys.length news w /\ zBA p (CW X p w) w (ys.flatten.map .e) news) := by
 obtain ⟨i, d, z, u1, u2, u3, u4, u5, _⟩ := (hT _ _ htx).out
 have hempty : ∀ (A : Option Addr) (cap e' : Nat), P.underlying tx = some (.slice e') -> ∃ news, Src P sz tx (.slice A 0 cap) ([] : List (List E)).length news w /\ zBA p (CW X p w) w (([] : List (List E)).flatten.map .e) news := fun A cap e' hke => by
  cases A with
  | none => exact ⟨[], Src.ofNil w hke cap, rfl, fun i x u h => by cases h⟩
  | some a => exact ⟨[], Src.ofSlice w hke a 0 cap [] (by simp) (fun j u h => by cases h) (fun u h => by cases h), rfl, fun i x u h => by cases h⟩
 unfold zIg at h
 split at h
 ·rename_i e' ys' hk
  cases h
  rw [hk] at u5
  have hke : P.underlying tx = some (.slice e') := by rw [u2, show d = .slice e' from u5]
  refine ⟨hφ, ?_⟩
  obtain ⟨A, n, cap, z', b, o, U, rfl, hn, _⟩ := zDb hy
  rcases Nat.eq_zero_or_pos n with h0 | h0
  ·have hx0 : ys = [] := List.eq_nil_of_length_eq_zero (by omega)
   subst hx0
   subst h0
   exact hempty A cap e' hke
  ·obtain ⟨b', o', rfl, hm⟩ := zLY (p := p) (fun _ _ _ h => h.1) hy h0
   rw [hn]
   exact zGL hm hke (by rw [List.length_map, zAz ys hφ, hn])
 ·rename_i e' hk
  cases h
  rw [hk] at u5
  obtain rfl : vy = .slice none 0 0 := hy
  exact ⟨fun cs hc => (nomatch hc), hempty none 0 e' (by rw [u2, show d = .slice e' from u5])⟩
 ·rename_i e' id ver hk
  rw [hk] at u5
  have hke : P.underlying tx = some (.slice e') := by rw [u2, show d = .slice e' from u5]
  split at h
  ·rename_i bv z xs pub hb
   cases hv : (Nat.beq bv ver && Nat.beq z sz) with
   | false => simp [hv] at h
   | true =>
    simp only [hv, cond_true, Option.some.injEq, Prod.mk.injEq] at h
    obtain ⟨rfl, rfl⟩ := h
    simp only [Bool.and_eq_true] at hv
    obtain rfl := Nat.eq_of_beq_eq_true hv.1
    obtain rfl := Nat.eq_of_beq_eq_true hv.2
    obtain ⟨hz0, hz⟩ := zJA hR hb
    refine ⟨hz, ?_⟩
    obtain ⟨_, blk, h1, h2, h3⟩ := hy
    rw [hb] at h1
    cases h1
    obtain ⟨z', n', q1, q2, q3⟩ := h3 rfl
    simp only [Body.shape, Prod.mk.injEq] at q1
    obtain ⟨rfl, rfl⟩ := q1
    rcases q3 with ⟨q3, A, rfl⟩ | ⟨g, cap, g1, rfl, g3, g4, g5⟩
    ·have hx0 : xs = [] := List.eq_nil_of_length_eq_zero q3
     subst hx0
     exact hempty A 0 e' hke
    ·exact zGL (zE8 hR hb g1) hke (by
      show (xs.flatten.map D0.e).length = _
      rw [List.length_map, zAz xs hz])
  ·cases h
 ·rename_i e' id ver off z n hk
  rw [hk] at u5
  have hke : P.underlying tx = some (.slice e') := by rw [u2, show d = .slice e' from u5]
  split at h
  ·rename_i bv cs pub hb
   cases hv : (Nat.beq bv ver && Nat.beq z sz) with
   | false => simp [hv] at h
   | true =>
    simp only [hv, cond_true, Option.some.injEq, Prod.mk.injEq] at h
    obtain ⟨rfl, rfl⟩ := h
    simp only [Bool.and_eq_true] at hv
    obtain rfl := Nat.eq_of_beq_eq_true hv.1
    obtain rfl := Nat.eq_of_beq_eq_true hv.2
    obtain ⟨_, blk, h1, h2, h3⟩ := hy
    rw [hb] at h1
    cases h1
    obtain ⟨z0, z1, g, cap, g1, rfl, g3, g4⟩ := h3 rfl
    simp only [Body.shape, Cs.d0, List.length_map] at z1
    have hfit : n * z <= (cs.drop off).length := by rw [List.length_drop]; omega
    refine ⟨zG9 hfit, ?_⟩
    rw [zD6 n hfit, zCW]
    exact zGL (zI5 hR hb g1 off (n * z)) hke (by rw [List.length_map, List.length_take]; omega)
  ·cases h
 ·rename_i s hk
  rw [hk] at u5
  cases hv : Nat.beq sz 1 with
  | false => simp [hv] at h
  | true =>
   obtain rfl := Nat.eq_of_beq_eq_true hv
   simp only [hv, cond_true, Option.some.injEq, Prod.mk.injEq] at h
   obtain ⟨rfl, rfl⟩ := h
   obtain rfl := zCu hy
   refine ⟨fun cs hc => ?_, byteCells s, ?_, zDS s⟩
   ·unfold zCp at hc
    obtain ⟨b, _, rfl⟩ := List.mem_map.1 hc
    rfl
   ·rw [zCs]
    exact Src.ofString w (by rw [u2, show d = .string from u5]) s
 ·cases h
theorem zN8 (hT : TOk P T) (hR : RM X p w) {sz tx : Nat} {tix : TI} (htx : T tx = some tix) {y : D} {vy : Value} {φ : Prop} {ys : List (List E)}
  (hy : zAy p (CW X p w) w y vy) (h : zIg p.mem tix.k sz y = some (φ, ys)) (hφ : φ) :
  (Builtin.lenOf vy).run P w = .ok ys.length w /\ (∀ cs ∈ ys, cs.length = sz) /\ ∃ news, zBA p (CW X p w) w (ys.flatten.map .e) news /\ ∀ k, k <= ys.length -> (Builtin.firstCells sz k vy).run P w = .ok (news.take (k * sz)).toArray w := by
 have hempty : ∀ (A : Option Addr) (cap : Nat), (Builtin.lenOf (.slice A 0 cap)).run P w = .ok 0 w /\ (∀ cs ∈ ([] : List (List E)), cs.length = sz) /\ ∃ news, zBA p (CW X p w) w (([] : List (List E)).flatten.map .e) news /\ ∀ k, k <= 0 -> (Builtin.firstCells sz k (.slice A 0 cap)).run P w = .ok (news.take (k * sz)).toArray w := fun A cap => by
  refine ⟨rfl, fun cs hc => (nomatch hc), [], ⟨rfl, fun i x u h => by cases h⟩, fun k hk => ?_⟩
  obtain rfl : k = 0 := by omega
  rw [Nat.zero_mul]
  cases A with
  | none => rfl
  | some a =>
   have := run_loadCells_list (P := P) w a [] (by simp)
   simp only [Builtin.firstCells, Nat.zero_mul]
   simpa using this
 have hmem : ∀ {xs : List D0} {b o n c : Nat}, zFP p (CW X p w) w b o xs -> xs.length = n * sz -> ∃ news, zBA p (CW X p w) w xs news /\ ∀ k, k <= n -> (Builtin.firstCells sz k (.slice (some ⟨b, o, none⟩) n c)).run P w = .ok (news.take (k * sz)).toArray w := fun {xs b o n c} hm hl => by
  obtain ⟨vs, h1, h2⟩ := hm.list
  refine ⟨vs, h1, fun k hk => ?_⟩
  have hkl : k * sz <= n * sz := Nat.mul_le_mul_right _ hk
  have := run_loadCells_list (P := P) w ⟨b, o, none⟩ (vs.take (k * sz)) (fun j u hu => by
   rw [List.getElem?_take] at hu
   split at hu
   ·rw [zCz]; exact h2 j u hu
   ·cases hu)
  rw [List.length_take, <-h1.1, hl, Nat.min_eq_left hkl] at this
  exact this
 obtain ⟨h0, hsrc, _⟩ := zIf hT hR htx hy h hφ
 unfold zIg at h
 split at h
 ·rename_i e' ys' hk
  cases h
  obtain ⟨A, n, cap, z', b, o, U, rfl, hn, _⟩ := zDb hy
  rcases Nat.eq_zero_or_pos n with h00 | h00
  ·have hx0 : ys = [] := List.eq_nil_of_length_eq_zero (by omega)
   subst hx0
   subst h00
   exact hempty A cap
  ·obtain ⟨b', o', rfl, hm⟩ := zLY (p := p) (fun _ _ _ h => h.1) hy h00
   rw [hn]
   exact ⟨rfl, h0, hmem hm (by rw [List.length_map, zAz ys hφ, hn])⟩
 ·rename_i e' hk
  cases h
  obtain rfl : vy = .slice none 0 0 := hy
  exact hempty none 0
 ·rename_i e' id ver hk
  split at h
  ·rename_i bv z xs pub hb
   cases hv : (Nat.beq bv ver && Nat.beq z sz) with
   | false => simp [hv] at h
   | true =>
    simp only [hv, cond_true, Option.some.injEq, Prod.mk.injEq] at h
    obtain ⟨rfl, rfl⟩ := h
    simp only [Bool.and_eq_true] at hv
    obtain rfl := Nat.eq_of_beq_eq_true hv.1
    obtain rfl := Nat.eq_of_beq_eq_true hv.2
    obtain ⟨_, blk, h1, h2, h3⟩ := hy
    rw [hb] at h1
    cases h1
    obtain ⟨z', n', q1, q2, q3⟩ := h3 rfl
    simp only [Body.shape, Prod.mk.injEq] at q1
    obtain ⟨rfl, rfl⟩ := q1
    rcases q3 with ⟨q3, A, rfl⟩ | ⟨g, cap, g1, rfl, g3, g4, g5⟩
    ·have hx0 : xs = [] := List.eq_nil_of_length_eq_zero q3
     subst hx0
     exact hempty A 0
    ·exact ⟨rfl, h0, hmem (zE8 hR hb g1) (by
      show (xs.flatten.map D0.e).length = _
      rw [List.length_map, zAz xs h0])⟩
  ·cases h
 ·rename_i e' id ver off z n hk
  split at h
  ·rename_i bv cs pub hb
   cases hv : (Nat.beq bv ver && Nat.beq z sz) with
   | false => simp [hv] at h
   | true =>
    simp only [hv, cond_true, Option.some.injEq, Prod.mk.injEq] at h
    obtain ⟨rfl, rfl⟩ := h
    simp only [Bool.and_eq_true] at hv
    obtain rfl := Nat.eq_of_beq_eq_true hv.1
    obtain rfl := Nat.eq_of_beq_eq_true hv.2
    obtain ⟨_, blk, h1, h2, h3⟩ := hy
    rw [hb] at h1
    cases h1
    obtain ⟨z0, z1, g, cap, g1, rfl, g3, g4⟩ := h3 rfl
    simp only [Body.shape, Cs.d0, List.length_map] at z1
    have hfit : n * z <= (cs.drop off).length := by rw [List.length_drop]; omega
    rw [zD6 n hfit, zCW]
    exact ⟨rfl, h0, hmem (zI5 hR hb g1 off (n * z)) (by rw [List.length_map, List.length_take]; omega)⟩
  ·cases h
 ·rename_i s hk
  cases hv : Nat.beq sz 1 with
  | false => simp [hv] at h
  | true =>
   obtain rfl := Nat.eq_of_beq_eq_true hv
   simp only [hv, cond_true, Option.some.injEq, Prod.mk.injEq] at h
   obtain ⟨rfl, rfl⟩ := h
   obtain rfl := zCu hy
   refine ⟨by rw [zCs]; rfl, h0, byteCells s, zDS s, fun k hk => ?_⟩
   simp only [Builtin.firstCells, Nat.mul_one]
   unfold byteCells
   show Result.ok _ w = Result.ok _ w
   congr 1
   apply Array.ext'
   rw [zCs] at hk
   simp [List.extract_eq_take_drop]
 ·cases h
theorem zCK {g o : Nat} {t : TypeId} {lo hi : Nat} : ∀ (vs : List Value) (i : Nat) (cur : Array Value) (w : World), w.heap[g]? = some (.cells cur t (lo, hi)) -> (lo < hi -> cur.size <= lo) -> o + i + vs.length <= cur.size -> (∀ v ∈ vs, v.oneCell' = true) ->
  (storeCells ⟨g, o, none⟩ vs i).run P w = .ok () (w.setRow g (cur.toList.take (o + i) ++ vs ++ cur.toList.drop (o + i + vs.length)).toArray)
 | [], i, cur, w, hg, _, _, _ => by
  simp only [storeCells, List.append_nil, List.length_nil, Nat.add_zero, List.take_append_drop, Array.toArray_toList]
  rw [setRow_self w g cur t _ hg]
  rfl
 | v :: rest, i, cur, w, hg, hfz, hl, h1 => by
  have hi' : o + i < cur.size := by simp at hl; omega
  have hcell : w.cell? ⟨g, o + i, none⟩ = some cur[o + i] := by simp [World.cell?, hg, hi']
  have hfro : w.frozen? ⟨g, o + i, none⟩ = false := by
   simp only [World.frozen?, hg, Bool.and_eq_false_iff, decide_eq_false_iff_not]
   by_cases hlh : lo < hi
   ·have := hfz hlh; left; omega
   ·by_cases h2 : lo <= o + i
    ·right; omega
    ·left; exact h2
  have hst : (store ((⟨g, o, none⟩ : Addr).add i) v).run P w = .ok () (w.setRow g (cur.setIfInBounds (o + i) v)) := by
   rw [zCz, run_store P w _ v _ (h1 v (by simp)), hcell]
   simp [hfro, setCell_eq_setRow w g (o + i) cur t _ v hg]
  have ih := zCK (g := g) (o := o) (lo := lo) (hi := hi) (t := t) rest (i + 1) (cur.setIfInBounds (o + i) v) (w.setRow g (cur.setIfInBounds (o + i) v)) (setRow_heap w g cur _ t _ hg) (by simpa using hfz) (by simp at hl ⊢; omega) (fun x hx => h1 x (by simp [hx]))
  simp only [storeCells, Sem.run_bind, hst, Result.andThen_ok, ih, setRow_setRow]
  congr 3
  have e := list_seg_step cur.toList (o + i) v rest (by simp at hl ⊢; omega)
  simpa [Array.toList_setIfInBounds, Nat.add_assoc] using e
end
section
variable {P : Program} {T : Nat -> Option TI} {X : Ctx} {w : World} {p : Rho}
theorem zDV (hR : RM X p w) {ob : Array Value} {t : TypeId} {lo hi id ver z cap : Nat} {xs : List (List E)} (w' : World) (hw : w'.heap = w.heap.push (.cells ob t (lo, hi))) (h1 : w'.os = w.os) (h2 : w'.tape = w.tape) (h3 : w'.output = w.output)
  (hfz : lo < hi -> ob.size <= lo) (hz0 : 0 < z) (hz : ∀ cs ∈ xs, cs.length = z) (hver : ∀ b, p.mem id = some b -> b.ver < ver) {pub : Nat} (hpub : pub <= xs.length * z)
  (hn : xs.length <= cap) (hcap : cap <= maxLen) (hsz : cap * z <= ob.size) {vs : List Value} (hr : zBA p (CW X p w) w (xs.flatten.map .e) vs) (hpre : ∀ (i : Nat) u, vs[i]? = some u -> ob[i]? = some u) :
  let p' : Rho := ⟨upd p.mem id (some ⟨ver, .row z xs, pub⟩), upd p.μ id (some w.heap.size)⟩
  RM X p' w' /\ Kept p (CW X p w) w p' (CW X p' w') w' /\ zCQ p' (CW X p' w') w' (.own id ver) (.slice (some ⟨w.heap.size, 0, none⟩) xs.length cap) := by
 have hlen : (Blk.mk ver (.row z xs) pub).cells.length = xs.length * z := by
  show (xs.flatten.map D0.e).length = _
  rw [List.length_map, zAz xs hz]
 have hmul : xs.length * z <= cap * z := Nat.mul_le_mul_right _ hn
 have h := hR.alloc (ob := ob) (t := t) (lo := lo) (hi := hi) (id := id) (blk := ⟨ver, .row z xs, pub⟩) w' hw h1 h2 h3 ⟨hz0, hz⟩ hfz (by rw [hlen]; omega) (by rw [hlen]; exact hpub) hver (fun i x hx => by
  have hi : i < vs.length := by rw [<-hr.1]; exact (List.getElem?_eq_some_iff.1 hx).1
  exact ⟨vs[i], hpre i _ (List.getElem?_eq_getElem hi), hr.2 i x _ hx (List.getElem?_eq_getElem hi)⟩)
 refine ⟨h.1, h.2, rfl, _, zAn _ _ _, Nat.le_refl _, fun _ => ⟨z, xs.length, rfl, hz0, .inr ⟨w.heap.size, cap, zAn _ _ _, rfl, hn, hcap, ?_⟩⟩⟩
 exact ⟨ob, t, (lo, hi), by rw [hw]; simp, hsz⟩
theorem zJE {C : Nat -> Nat -> Value -> Prop} {xs ys : List (List E)} {us vs : List Value} (h1 : zBA p C w (xs.flatten.map .e) us) (h2 : zBA p C w (ys.flatten.map .e) vs) : zBA p C w ((xs ++ ys).flatten.map .e) (us ++ vs) := by
 rw [List.flatten_append, List.map_append]
 exact zAZ h1 h2
theorem zHf (hT : TOk P T) (hR : RM X p w) {t tx ty e : Nat} {ti : TI} (ht : P.underlying t = some (.slice e)) (hti : TIOk P e ti) (hz0 : 0 < ti.size) {xs ys : List (List E)} (hzx : ∀ cs ∈ xs, cs.length = ti.size) (hzy : ∀ cs ∈ ys, cs.length = ti.size)
  {A : Option Addr} {cap : Nat} {olds news : List Value} {vy : Value} (hro : zBA p (CW X p w) w (xs.flatten.map .e) olds) (hold : (Builtin.firstCells ti.size xs.length (.slice A xs.length cap)).run P w.drew = .ok olds.toArray w.drew)
  (hs : Src P ti.size tx vy ys.length news w) (hrn : zBA p (CW X p w) w (ys.flatten.map .e) news) (hg : cap < xs.length + ys.length) (h63 : xs.length + ys.length <= maxLen) (hb : (xs.length + ys.length) * ti.bytes <= 140737488355328)
  {id ver pub : Nat} (hver : ∀ b, p.mem id = some b -> b.ver < ver) (hpub : pub <= xs.length * ti.size) :
  ∃ v w', (Builtin.append_ #[t, tx] ty #[.slice A xs.length cap, vy]).run P w = .ok v w' ∧
   let p' : Rho := ⟨upd p.mem id (some ⟨ver, .row ti.size (xs ++ ys), pub⟩), upd p.μ id (some w.heap.size)⟩
   RM X p' w' /\ Kept p (CW X p w) w p' (CW X p' w') w' /\ zCQ p' (CW X p' w') w' (.own id ver) v := by
 obtain ⟨i, d, z, u1, u2, u3, u4, u5, u6, u7, u8⟩ := hti.out
 have hzs : z.cells.size = ti.size := by rw [<-Array.length_toList, u7, hti.len]
 have hrun := run_append_grow_src (P := P) w t tx ty e i z ht u1 u6 A xs.length cap olds (by rw [u3]; exact hold) vy ys.length news (by rw [u3]; exact hs) hg (by simp only [maxLen] at h63; omega) (by rw [u4]; exact growslice_fits hg hb)
 have hge := grownCap_ge w (xs.length + ys.length) cap e
 have hcm := grownCap_le_maxLen w (xs.length + ys.length) cap e h63
 have hflat := zJE hro hrn
 have hlen : (olds ++ news).length = (xs.length + ys.length) * ti.size := by
  rw [<-hflat.1, List.length_map, zAz (xs ++ ys) (fun cs hc => (List.mem_append.1 hc).elim (hzx cs) (hzy cs)), List.length_append]
 refine ⟨_, _, hrun, ?_⟩
 have := zDV (X := X) hR (ob := (olds ++ news).toArray ++ Builtin.zeroCells z.cells (grownCap w (xs.length + ys.length) cap e - (xs.length + ys.length))) (t := e) (lo := 0) (hi := 0) (id := id) (ver := ver) (z := ti.size) (cap := grownCap w (xs.length + ys.length) cap e) (xs := xs ++ ys) (pub := pub)
  (w.drew.alloc (.cells ((olds ++ news).toArray ++ Builtin.zeroCells z.cells (grownCap w (xs.length + ys.length) cap e - (xs.length + ys.length))) e)) rfl rfl rfl rfl (by omega) hz0 (fun cs hc => (List.mem_append.1 hc).elim (hzx cs) (hzy cs)) hver (by rw [List.length_append, Nat.add_mul]; omega) (by rw [List.length_append]; exact hge) hcm (by
   rw [Array.size_append, List.size_toArray, hlen, size_zeroCells, hzs, <-Nat.add_mul]
   exact Nat.mul_le_mul_right _ (by omega)) hflat (fun i u hu => by
   rw [Array.getElem?_append_left (by simpa using (List.getElem?_eq_some_iff.1 hu).1)]
   simpa using hu)
 rw [List.length_append] at this
 exact this
theorem zEG (hT : TOk P T) (hR : RM X p w) {t tx ty e : Nat} {ti : TI} (ht : P.underlying t = some (.slice e)) (hti : TIOk P e ti) (hz0 : 0 < ti.size) {ys : List (List E)} (hzy : ∀ cs ∈ ys, cs.length = ti.size)
  {A : Option Addr} {news : List Value} {vy : Value} (hs : Src P ti.size tx vy ys.length news w) (hrn : zBA p (CW X p w) w (ys.flatten.map .e) news) (h63 : ys.length <= maxLen) (hb : ys.length * ti.bytes <= 140737488355328)
  {id ver : Nat} (hver : ∀ b, p.mem id = some b -> b.ver < ver) :
  ∃ v w' μ', (Builtin.append_ #[t, tx] ty #[.slice A 0 0, vy]).run P w = .ok v w' ∧
   let p' : Rho := ⟨upd p.mem id (some ⟨ver, .row ti.size ys, 0⟩), μ'⟩
   RM X p' w' /\ Kept p (CW X p w) w p' (CW X p' w') w' /\ zCQ p' (CW X p' w') w' (.own id ver) v := by
 rcases Nat.eq_zero_or_pos ys.length with h0 | h0
 ·have hy0 : ys = [] := List.eq_nil_of_length_eq_zero h0
  subst hy0
  have hn : news = [] := List.eq_nil_of_length_eq_zero (by rw [hs.newsLen]; simp)
  subst hn
  obtain ⟨i, d, z, u1, u2, u3, u4, u5, u6, u7, u8⟩ := hti.out
  have hsl : ∀ w' : World, (Builtin.lenOf vy).run P w' = .ok 0 w' := hs.len
  have hsc : (Builtin.firstCells ti.size 0 vy).run P w = .ok #[] w := hs.cells
  have g := hR.ghost (id := id) (ver := ver) (z := ti.size) hz0 hver
  refine ⟨.slice A 0 0, w, _, ?_, g.1, g.2, rfl, _, zAn _ _ _, Nat.le_refl _, fun _ => ⟨ti.size, 0, rfl, hz0, .inl ⟨rfl, A, rfl⟩⟩⟩
  have hst : ∀ a : Addr, (storeCells a []).run P w = .ok () w := fun a => rfl
  rcases hs.kind with ⟨e', hk⟩ | hk <;> cases A <;>
   simp [Builtin.append_, run_underlying ht, run_underlying hk, sizeOf, typeInfo, u1, u3, hsl, hsc, hst]
 ·obtain ⟨v, w', h1, h2⟩ := zHf (ty := ty) (A := A) (cap := 0) (olds := []) (xs := []) (id := id) (ver := ver) (pub := 0) hT hR ht hti hz0 (fun cs hc => nomatch hc) hzy ⟨rfl, fun i x u h => nomatch h⟩ (by
   cases A with
   | none => rfl
   | some a => simp [Builtin.firstCells, loadCells, loadCellsFrom]) hs hrn (by simpa using h0) (by simpa using h63) (by simpa using hb) hver (Nat.zero_le _)
  exact ⟨v, w', _, h1, h2⟩
theorem zHx (hT : TOk P T) (hR : RM X p w) {t tx ty e : Nat} {ti : TI} (ht : P.underlying t = some (.slice e)) (hti : TIOk P e ti) {id ver pub : Nat} {xs ys : List (List E)} (hbk : p.mem id = some ⟨ver, .row ti.size xs, pub⟩) (hzy : ∀ cs ∈ ys, cs.length = ti.size)
  {vx vy : Value} (hx : zCQ p (CW X p w) w (.own id ver) vx) {news : List Value} (hs : Src P ti.size tx vy ys.length news w) (hrn : zBA p (CW X p w) w (ys.flatten.map .e) news)
  (h63 : xs.length + ys.length <= maxLen) (hb : (xs.length + ys.length) * ti.bytes <= 140737488355328) :
  ∃ v w' μ', (Builtin.append_ #[t, tx] ty #[vx, vy]).run P w = .ok v w' ∧
   let p' : Rho := ⟨upd p.mem id (some ⟨ver + 1, .row ti.size (xs ++ ys), pub⟩), μ'⟩
   RM X p' w' /\ Kept p (CW X p w) w p' (CW X p' w') w' /\ zCQ p' (CW X p' w') w' (.own id (ver + 1)) v := by
 obtain ⟨hz0, hzx⟩ := zJA hR hbk
 have hpub := hR.pub_le hbk
 simp only [Blk.cells, Body.cells, List.length_map, zAz xs hzx] at hpub
 have hver : ∀ b, p.mem id = some b -> b.ver < ver + 1 := fun b hb => by rw [hbk] at hb; cases hb; exact Nat.lt_succ_self _
 obtain ⟨_, blk, h1, h2, h3⟩ := hx
 rw [hbk] at h1
 cases h1
 obtain ⟨z', n', q1, q2, q3⟩ := h3 rfl
 simp only [Body.shape, Prod.mk.injEq] at q1
 obtain ⟨rfl, rfl⟩ := q1
 rcases q3 with ⟨q3, A, rfl⟩ | ⟨g, cap, g1, rfl, g3, g4, g5⟩
 ·have hx0 : xs = [] := List.eq_nil_of_length_eq_zero q3
  subst hx0
  have hp0 : pub = 0 := by simpa using hpub
  subst hp0
  obtain ⟨v, w', μ', k1, k2⟩ := zEG (ty := ty) (A := A) (id := id) (ver := ver + 1) hT hR ht hti hz0 hzy hs hrn (by simpa using h63) (by simpa using hb) hver
  exact ⟨v, w', μ', k1, by simpa using k2⟩
 ·have hm := zE8 hR hbk g1
  have hbo := hR.blk id _ hbk
  simp only [zAP, g1] at hbo
  obtain ⟨_, b1, b2, b3, cur, et, lo, hi, b4, b5, b6, b7⟩ := hbo
  obtain ⟨olds, ho1, ho2⟩ := hm.list
  have hol : olds.length = xs.length * ti.size := by rw [<-ho1.1]; show (xs.flatten.map D0.e).length = _; rw [List.length_map, zAz xs hzx]
  have hcurpre : ∀ (i : Nat) u, olds[i]? = some u -> cur[i]? = some u := fun i u hu => by
   have := ho2 i u hu
   rw [Nat.zero_add, zCN b4] at this
   exact this
  obtain ⟨i, d, z, u1, u2, u3, u4, u5, u6, u7, u8⟩ := hti.out
  obtain ⟨c0, e0, f0, z1, z2⟩ := g5
  rw [b4] at z1
  cases z1
  by_cases hroom : xs.length + ys.length <= cap
  ·have hfit : xs.length * ti.size + news.length <= cur.size := by
    rw [hs.newsLen, <-Nat.add_mul]
    exact Nat.le_trans (Nat.mul_le_mul_right _ hroom) z2
   have hst := zCK (P := P) (g := g) (o := xs.length * ti.size) (lo := lo) (hi := hi) (t := et) news 0 cur w b4 b5 (by simpa using hfit) hs.one
   simp only [Nat.add_zero] at hst
   have hr : (Builtin.append_ #[t, tx] ty #[.slice (some ⟨g, 0, none⟩) xs.length cap, vy]).run P w = .ok (.slice (some ⟨g, 0, none⟩) (xs.length + ys.length) cap) (w.setRow g (cur.toList.take (xs.length * ti.size) ++ news ++ cur.toList.drop (xs.length * ti.size + news.length)).toArray) := by
    rcases hs.kind with ⟨e', hk⟩ | hk <;> simp [Builtin.append_, run_underlying ht, run_underlying hk, sizeOf, typeInfo, u1, u3, hs.len, hroom, hs.cells, zCz, hst]
   have htl : (cur.toList.take (xs.length * ti.size)).length = xs.length * ti.size := by simp; omega
   have hcs : (cur.toList.take (xs.length * ti.size) ++ news ++ cur.toList.drop (xs.length * ti.size + news.length)).toArray.size = cur.size := by
    simp only [List.size_toArray, List.length_append, List.length_take, List.length_drop, Array.length_toList]
    omega
   have hflat := zJE ho1 hrn
   have hw := hR.write (blk' := ⟨ver + 1, .row ti.size (xs ++ ys), pub⟩) (w.setRow g (cur.toList.take (xs.length * ti.size) ++ news ++ cur.toList.drop (xs.length * ti.size + news.length)).toArray) hbk g1 b4 (setRow_heap w g cur _ et _ b4) (fun k hk => setRow_other w g k _ hk) (by simp [World.setRow]) rfl rfl rfl hcs (fun o ho => by
    simp only [List.getElem?_toArray]
    rw [List.append_assoc, List.getElem?_append_left (by rw [htl]; exact Nat.lt_of_lt_of_le ho hpub), List.getElem?_take_of_lt (Nat.lt_of_lt_of_le ho hpub)]
    simp) (Nat.le_refl _) (by
     show pub <= ((xs ++ ys).flatten.map D0.e).length
     rw [List.length_map, zAz (xs ++ ys) (fun cs hc => (List.mem_append.1 hc).elim (hzx cs) (hzy cs)), List.length_append, Nat.add_mul]
     omega) (by
     show ((xs ++ ys).flatten.map D0.e).length <= _
     rw [List.length_map, zAz (xs ++ ys) (fun cs hc => (List.mem_append.1 hc).elim (hzx cs) (hzy cs)), List.length_append]
     exact Nat.le_trans (Nat.mul_le_mul_right _ hroom) z2) ⟨hz0, fun cs hc => (List.mem_append.1 hc).elim (hzx cs) (hzy cs)⟩ (Nat.le_succ _) (fun e => absurd e (Nat.ne_of_lt (Nat.lt_succ_self _))) (fun j x hx => by
     have hj : j < (olds ++ news).length := by rw [<-hflat.1]; exact (List.getElem?_eq_some_iff.1 hx).1
     have hu := List.getElem?_eq_getElem hj
     refine ⟨_, ?_, hflat.2 j x _ hx hu⟩
     simp only [List.getElem?_toArray]
     rw [List.append_assoc]
     by_cases hjo : j < olds.length
     ·rw [List.getElem?_append_left (by rw [htl, <-hol]; exact hjo), List.getElem?_take_of_lt (by rw [<-hol]; exact hjo)]
      rw [List.getElem?_append_left hjo] at hu
      rw [<-hcurpre j _ hu]
      simp
     ·rw [List.getElem?_append_right (by rw [htl, <-hol]; omega), htl, <-hol]
      rw [List.getElem?_append_right (by omega)] at hu
      rw [List.getElem?_append_left (List.getElem?_eq_some_iff.1 hu).1]
      exact hu)
   refine ⟨_, _, p.μ, hr, hw.1, hw.2, rfl, _, zAn _ _ _, Nat.le_refl _, fun _ => ⟨ti.size, xs.length + ys.length, by simp [Body.shape], hz0, .inr ⟨g, cap, g1, rfl, hroom, g4, ?_⟩⟩⟩
   exact ⟨_, _, _, setRow_heap w g cur _ et _ b4, by rw [hcs]; exact z2⟩
  ·have holds : ∀ j u, olds[j]? = some u -> w.drew.cell? ((⟨g, 0, none⟩ : Addr).add j) = some u := fun j u hu => by
    rw [zCz]
    exact ho2 j u hu
   obtain ⟨v, w', k1, k2⟩ := zHf (ty := ty) (A := some ⟨g, 0, none⟩) (cap := cap) (olds := olds) (xs := xs) (id := id) (ver := ver + 1) (pub := pub) hT hR ht hti hz0 hzx hzy ho1 (run_firstCells_some w.drew ti.size xs.length _ _ cap olds hol holds) hs hrn (by omega) h63 hb hver (by omega)
   exact ⟨v, w', _, k1, k2⟩
theorem zLv (hT : TOk P T) (hR : RM X p w) {t tx ty id : Nat} {x y : D} {vx vy : Value} (hx : zAy p (CW X p w) w x vx) (hy : zAy p (CW X p w) w y vy) {ef : Ef} (h : zDu T p.mem id t tx x y = some ef) (hφ : ef.φ) :
  ∃ v w' μ', (Builtin.append_ #[t, tx] ty #[vx, vy]).run P w = .ok v w' /\ RM X ⟨zBd p.mem ef.upds, μ'⟩ w' /\ Kept p (CW X p w) w ⟨zBd p.mem ef.upds, μ'⟩ (CW X ⟨zBd p.mem ef.upds, μ'⟩ w') w' /\ zAy ⟨zBd p.mem ef.upds, μ'⟩ (CW X ⟨zBd p.mem ef.upds, μ'⟩ w') w' ef.val v := by
 unfold zDu at h
 split at h
 ·rename_i a b e z tix ht htx
  have hu := zBI hT ht
  split at h
  ·rename_i ti φ ys hti hsrc
   cases hz : Nat.beq ti.size 0 with
   | true => simp [hz] at h
   | false =>
    have hz0 : 0 < ti.size := Nat.pos_of_ne_zero fun e => by rw [e] at hz; cases hz
    simp only [hz, cond_false] at h
    rw [hti] at hsrc
    split at h
    ·cases h
     obtain ⟨f1, f2, f3⟩ := hφ
     obtain ⟨k1, news, k2, k3⟩ := zIf hT hR htx hy hsrc f1
     obtain rfl : vx = .slice none 0 0 := hx
     exact zEG hT hR hu (hT _ _ hti) hz0 k1 k2 k3 f2 f3 zD0
    ·rename_i id' ver
     split at h
     ·rename_i bv z xs pub hb
      cases hv : (Nat.beq bv ver && Nat.beq z ti.size) with
      | false => simp [hv] at h
      | true =>
       simp only [hv, cond_true, Option.some.injEq] at h
       simp only [Bool.and_eq_true] at hv
       obtain rfl := Nat.eq_of_beq_eq_true hv.1
       obtain rfl := Nat.eq_of_beq_eq_true hv.2
       subst h
       obtain ⟨f1, f2, f3⟩ := hφ
       obtain ⟨k1, news, k2, k3⟩ := zIf hT hR htx hy hsrc f1
       exact zHx hT hR hu (hT _ _ hti) hb k1 hx k2 k3 f2 f3
     ·cases h
    ·cases h
  ·cases h
 ·cases h
end
end Go.Proofs.YtcdifgacoleckaaGreatDoor.Ab
