/- Operations that make or write memory go as 'effM' says. No condition. -/
import Derived.Test.YtcjeeoimjkhijaaDoorAb11
namespace Go.Proofs.YtcjeeoimjkhijaaDoor.Ab
open Go Go.RowKit

section
variable {P : Program} {T : Nat → Option TI} {X : Ctx} {w : World} {p : Rho}

/-- a new row in a new block -/
theorem row_alloc (hR : RM X p w) {ob : Array Value} {t : TypeId} {lo hi id ver z cap : Nat} {xs : List (List E)} (w' : World) (hw : w'.heap = w.heap.push (.cells ob t (lo, hi))) (h1 : w'.os = w.os) (h2 : w'.tape = w.tape) (h3 : w'.output = w.output)
    (hfz : lo < hi → ob.size ≤ lo) (hz0 : 0 < z) (hz : ∀ cs ∈ xs, cs.length = z) (hver : ∀ b, p.mem id = some b → b.ver < ver) {pub : Nat} (hpub : pub ≤ xs.length * z)
    (hn : xs.length ≤ cap) (hcap : cap ≤ maxLen) (hsz : cap * z ≤ ob.size) {vs : List Value} (hr : Rep2 p (CW X p w) w (xs.flatten.map .e) vs) (hpre : ∀ (i : Nat) u, vs[i]? = some u → ob[i]? = some u) :
    let p' : Rho := ⟨upd p.mem id (some ⟨ver, .row z xs, pub⟩), upd p.μ id (some w.heap.size)⟩
    RM X p' w' ∧ Kept p (CW X p w) w p' (CW X p' w') w' ∧ Rep0 p' (CW X p' w') w' (.own id ver) (.slice (some ⟨w.heap.size, 0, none⟩) xs.length cap) := by
  have hlen : (Blk.mk ver (.row z xs) pub).cells.length = xs.length * z := by
    show (xs.flatten.map D0.e).length = _
    rw [List.length_map, flatten_len xs hz]
  have hmul : xs.length * z ≤ cap * z := Nat.mul_le_mul_right _ hn
  have h := hR.alloc (ob := ob) (t := t) (lo := lo) (hi := hi) (id := id) (blk := ⟨ver, .row z xs, pub⟩) w' hw h1 h2 h3 ⟨hz0, hz⟩ hfz (by rw [hlen]; omega) (by rw [hlen]; exact hpub) hver (fun i x hx => by
    have hi : i < vs.length := by rw [← hr.1]; exact (List.getElem?_eq_some_iff.1 hx).1
    exact ⟨vs[i], hpre i _ (List.getElem?_eq_getElem hi), hr.2 i x _ hx (List.getElem?_eq_getElem hi)⟩)
  refine ⟨h.1, h.2, rfl, _, upd_same _ _ _, Nat.le_refl _, fun _ => ⟨z, xs.length, rfl, hz0, .inr ⟨w.heap.size, cap, upd_same _ _ _, rfl, hn, hcap, ?_⟩⟩⟩
  exact ⟨ob, t, (lo, hi), by rw [hw]; simp, hsz⟩

theorem rep2_flat {C : Nat → Nat → Value → Prop} {xs ys : List (List E)} {us vs : List Value} (h1 : Rep2 p C w (xs.flatten.map .e) us) (h2 : Rep2 p C w (ys.flatten.map .e) vs) : Rep2 p C w ((xs ++ ys).flatten.map .e) (us ++ vs) := by
  rw [List.flatten_append, List.map_append]
  exact rep2_append h1 h2

theorem drew_same (w : World) : w.drew.heap = w.heap ∧ w.drew.os = w.os ∧ w.drew.tape = w.tape ∧ w.drew.output = w.output := ⟨rfl, rfl, rfl, rfl⟩

/-- append: a new block -/
theorem append_grow (hT : TOk P T) (hR : RM X p w) {t tx ty e : Nat} {ti : TI} (ht : P.underlying t = some (.slice e)) (hti : TIOk P e ti) (hz0 : 0 < ti.size) {xs ys : List (List E)} (hzx : ∀ cs ∈ xs, cs.length = ti.size) (hzy : ∀ cs ∈ ys, cs.length = ti.size)
    {A : Option Addr} {cap : Nat} {olds news : List Value} {vy : Value} (hro : Rep2 p (CW X p w) w (xs.flatten.map .e) olds) (hold : (Builtin.firstCells ti.size xs.length (.slice A xs.length cap)).run P w.drew = .ok olds.toArray w.drew)
    (hs : Src P ti.size tx vy ys.length news w) (hrn : Rep2 p (CW X p w) w (ys.flatten.map .e) news) (hg : cap < xs.length + ys.length) (h63 : xs.length + ys.length ≤ maxLen) (hb : (xs.length + ys.length) * ti.bytes ≤ 140737488355328)
    {id ver pub : Nat} (hver : ∀ b, p.mem id = some b → b.ver < ver) (hpub : pub ≤ xs.length * ti.size) :
    ∃ v w', (Builtin.append_ #[t, tx] ty #[.slice A xs.length cap, vy]).run P w = .ok v w' ∧
      let p' : Rho := ⟨upd p.mem id (some ⟨ver, .row ti.size (xs ++ ys), pub⟩), upd p.μ id (some w.heap.size)⟩
      RM X p' w' ∧ Kept p (CW X p w) w p' (CW X p' w') w' ∧ Rep0 p' (CW X p' w') w' (.own id ver) v := by
  obtain ⟨i, d, z, u1, u2, u3, u4, u5, u6, u7, u8⟩ := hti.out
  have hzs : z.cells.size = ti.size := by rw [← Array.length_toList, u7, hti.len]
  have hrun := run_append_grow_src (P := P) w t tx ty e i z ht u1 u6 A xs.length cap olds (by rw [u3]; exact hold) vy ys.length news (by rw [u3]; exact hs) hg (by simp only [maxLen] at h63; omega) (by rw [u4]; exact growslice_fits hg hb)
  have hge := grownCap_ge w (xs.length + ys.length) cap e
  have hcm := grownCap_le_maxLen w (xs.length + ys.length) cap e h63
  have hflat := rep2_flat hro hrn
  have hlen : (olds ++ news).length = (xs.length + ys.length) * ti.size := by
    rw [← hflat.1, List.length_map, flatten_len (xs ++ ys) (fun cs hc => (List.mem_append.1 hc).elim (hzx cs) (hzy cs)), List.length_append]
  refine ⟨_, _, hrun, ?_⟩
  have := row_alloc (X := X) hR (ob := (olds ++ news).toArray ++ Builtin.zeroCells z.cells (grownCap w (xs.length + ys.length) cap e - (xs.length + ys.length))) (t := e) (lo := 0) (hi := 0) (id := id) (ver := ver) (z := ti.size) (cap := grownCap w (xs.length + ys.length) cap e) (xs := xs ++ ys) (pub := pub)
    (w.drew.alloc (.cells ((olds ++ news).toArray ++ Builtin.zeroCells z.cells (grownCap w (xs.length + ys.length) cap e - (xs.length + ys.length))) e)) rfl rfl rfl rfl (by omega) hz0 (fun cs hc => (List.mem_append.1 hc).elim (hzx cs) (hzy cs)) hver (by rw [List.length_append, Nat.add_mul]; omega) (by rw [List.length_append]; exact hge) hcm (by
      rw [Array.size_append, List.size_toArray, hlen, size_zeroCells, hzs, ← Nat.add_mul]
      exact Nat.mul_le_mul_right _ (by omega)) hflat (fun i u hu => by
      rw [Array.getElem?_append_left (by simpa using (List.getElem?_eq_some_iff.1 hu).1)]
      simpa using hu)
  rw [List.length_append] at this
  exact this

theorem two_of {m : Mem} {μ : Nat → Option Nat} {id : Nat} {b : Blk} : (⟨appU m [(id, b)], μ⟩ : Rho) = ⟨upd m id (some b), μ⟩ := rfl

/-- append onto nothing -/
theorem appendNil_goes (hT : TOk P T) (hR : RM X p w) {t tx ty e : Nat} {ti : TI} (ht : P.underlying t = some (.slice e)) (hti : TIOk P e ti) (hz0 : 0 < ti.size) {ys : List (List E)} (hzy : ∀ cs ∈ ys, cs.length = ti.size)
    {A : Option Addr} {news : List Value} {vy : Value} (hs : Src P ti.size tx vy ys.length news w) (hrn : Rep2 p (CW X p w) w (ys.flatten.map .e) news) (h63 : ys.length ≤ maxLen) (hb : ys.length * ti.bytes ≤ 140737488355328)
    {id ver : Nat} (hver : ∀ b, p.mem id = some b → b.ver < ver) :
    ∃ v w' μ', (Builtin.append_ #[t, tx] ty #[.slice A 0 0, vy]).run P w = .ok v w' ∧
      let p' : Rho := ⟨upd p.mem id (some ⟨ver, .row ti.size ys, 0⟩), μ'⟩
      RM X p' w' ∧ Kept p (CW X p w) w p' (CW X p' w') w' ∧ Rep0 p' (CW X p' w') w' (.own id ver) v := by
  rcases Nat.eq_zero_or_pos ys.length with h0 | h0
  · have hy0 : ys = [] := List.eq_nil_of_length_eq_zero h0
    subst hy0
    have hn : news = [] := List.eq_nil_of_length_eq_zero (by rw [hs.newsLen]; simp)
    subst hn
    obtain ⟨i, d, z, u1, u2, u3, u4, u5, u6, u7, u8⟩ := hti.out
    have hsl : ∀ w' : World, (Builtin.lenOf vy).run P w' = .ok 0 w' := hs.len
    have hsc : (Builtin.firstCells ti.size 0 vy).run P w = .ok #[] w := hs.cells
    have g := hR.ghost (id := id) (ver := ver) (z := ti.size) hz0 hver
    refine ⟨.slice A 0 0, w, _, ?_, g.1, g.2, rfl, _, upd_same _ _ _, Nat.le_refl _, fun _ => ⟨ti.size, 0, rfl, hz0, .inl ⟨rfl, A, rfl⟩⟩⟩
    have hst : ∀ a : Addr, (storeCells a []).run P w = .ok () w := fun a => rfl
    rcases hs.kind with ⟨e', hk⟩ | hk <;> cases A <;>
      simp [Builtin.append_, run_underlying ht, run_underlying hk, sizeOf, typeInfo, u1, u3, hsl, hsc, hst]
  · obtain ⟨v, w', h1, h2⟩ := append_grow (ty := ty) (A := A) (cap := 0) (olds := []) (xs := []) (id := id) (ver := ver) (pub := 0) hT hR ht hti hz0 (fun cs hc => nomatch hc) hzy ⟨rfl, fun i x u h => nomatch h⟩ (by
      cases A with
      | none => rfl
      | some a => simp [Builtin.firstCells, loadCells, loadCellsFrom]) hs hrn (by simpa using h0) (by simpa using h63) (by simpa using hb) hver (Nat.zero_le _)
    exact ⟨v, w', _, h1, h2⟩

/-- append onto an own row -/
theorem appendOwn_goes (hT : TOk P T) (hR : RM X p w) {t tx ty e : Nat} {ti : TI} (ht : P.underlying t = some (.slice e)) (hti : TIOk P e ti) {id ver pub : Nat} {xs ys : List (List E)} (hbk : p.mem id = some ⟨ver, .row ti.size xs, pub⟩) (hzy : ∀ cs ∈ ys, cs.length = ti.size)
    {vx vy : Value} (hx : Rep0 p (CW X p w) w (.own id ver) vx) {news : List Value} (hs : Src P ti.size tx vy ys.length news w) (hrn : Rep2 p (CW X p w) w (ys.flatten.map .e) news)
    (h63 : xs.length + ys.length ≤ maxLen) (hb : (xs.length + ys.length) * ti.bytes ≤ 140737488355328) :
    ∃ v w' μ', (Builtin.append_ #[t, tx] ty #[vx, vy]).run P w = .ok v w' ∧
      let p' : Rho := ⟨upd p.mem id (some ⟨ver + 1, .row ti.size (xs ++ ys), pub⟩), μ'⟩
      RM X p' w' ∧ Kept p (CW X p w) w p' (CW X p' w') w' ∧ Rep0 p' (CW X p' w') w' (.own id (ver + 1)) v := by
  obtain ⟨hz0, hzx⟩ := row_ok hR hbk
  have hpub := hR.pub_le hbk
  simp only [Blk.cells, Body.cells, List.length_map, flatten_len xs hzx] at hpub
  have hver : ∀ b, p.mem id = some b → b.ver < ver + 1 := fun b hb => by rw [hbk] at hb; cases hb; exact Nat.lt_succ_self _
  obtain ⟨_, blk, h1, h2, h3⟩ := hx
  rw [hbk] at h1
  cases h1
  obtain ⟨z', n', q1, q2, q3⟩ := h3 rfl
  simp only [Body.shape, Prod.mk.injEq] at q1
  obtain ⟨rfl, rfl⟩ := q1
  rcases q3 with ⟨q3, A, rfl⟩ | ⟨g, cap, g1, rfl, g3, g4, g5⟩
  · have hx0 : xs = [] := List.eq_nil_of_length_eq_zero q3
    subst hx0
    have hp0 : pub = 0 := by simpa using hpub
    subst hp0
    obtain ⟨v, w', μ', k1, k2⟩ := appendNil_goes (ty := ty) (A := A) (id := id) (ver := ver + 1) hT hR ht hti hz0 hzy hs hrn (by simpa using h63) (by simpa using hb) hver
    exact ⟨v, w', μ', k1, by simpa using k2⟩
  · have hm := mem_of hR hbk g1
    have hbo := hR.blk id _ hbk
    simp only [BlkOk, g1] at hbo
    obtain ⟨_, b1, b2, b3, cur, et, lo, hi, b4, b5, b6, b7⟩ := hbo
    obtain ⟨olds, ho1, ho2⟩ := hm.list
    have hol : olds.length = xs.length * ti.size := by rw [← ho1.1]; show (xs.flatten.map D0.e).length = _; rw [List.length_map, flatten_len xs hzx]
    have hcurpre : ∀ (i : Nat) u, olds[i]? = some u → cur[i]? = some u := fun i u hu => by
      have := ho2 i u hu
      rw [Nat.zero_add, cell_row b4] at this
      exact this
    obtain ⟨i, d, z, u1, u2, u3, u4, u5, u6, u7, u8⟩ := hti.out
    obtain ⟨c0, e0, f0, z1, z2⟩ := g5
    rw [b4] at z1
    cases z1
    by_cases hroom : xs.length + ys.length ≤ cap
    · have hfit : xs.length * ti.size + news.length ≤ cur.size := by
        rw [hs.newsLen, ← Nat.add_mul]
        exact Nat.le_trans (Nat.mul_le_mul_right _ hroom) z2
      have hst := run_store_own (P := P) (g := g) (o := xs.length * ti.size) (lo := lo) (hi := hi) (t := et) news 0 cur w b4 b5 (by simpa using hfit) hs.one
      simp only [Nat.add_zero] at hst
      have hr : (Builtin.append_ #[t, tx] ty #[.slice (some ⟨g, 0, none⟩) xs.length cap, vy]).run P w = .ok (.slice (some ⟨g, 0, none⟩) (xs.length + ys.length) cap) (w.setRow g (cur.toList.take (xs.length * ti.size) ++ news ++ cur.toList.drop (xs.length * ti.size + news.length)).toArray) := by
        rcases hs.kind with ⟨e', hk⟩ | hk <;> simp [Builtin.append_, run_underlying ht, run_underlying hk, sizeOf, typeInfo, u1, u3, hs.len, hroom, hs.cells, add_at, hst]
      have htl : (cur.toList.take (xs.length * ti.size)).length = xs.length * ti.size := by simp; omega
      have hcs : (cur.toList.take (xs.length * ti.size) ++ news ++ cur.toList.drop (xs.length * ti.size + news.length)).toArray.size = cur.size := by
        simp only [List.size_toArray, List.length_append, List.length_take, List.length_drop, Array.length_toList]
        omega
      have hflat := rep2_flat ho1 hrn
      have hw := hR.write (blk' := ⟨ver + 1, .row ti.size (xs ++ ys), pub⟩) (w.setRow g (cur.toList.take (xs.length * ti.size) ++ news ++ cur.toList.drop (xs.length * ti.size + news.length)).toArray) hbk g1 b4 (setRow_heap w g cur _ et _ b4) (fun k hk => setRow_other w g k _ hk) (by simp [World.setRow]) rfl rfl rfl hcs (fun o ho => by
        simp only [List.getElem?_toArray]
        rw [List.append_assoc, List.getElem?_append_left (by rw [htl]; exact Nat.lt_of_lt_of_le ho hpub), List.getElem?_take_of_lt (Nat.lt_of_lt_of_le ho hpub)]
        simp) (Nat.le_refl _) (by
          show pub ≤ ((xs ++ ys).flatten.map D0.e).length
          rw [List.length_map, flatten_len (xs ++ ys) (fun cs hc => (List.mem_append.1 hc).elim (hzx cs) (hzy cs)), List.length_append, Nat.add_mul]
          omega) (by
          show ((xs ++ ys).flatten.map D0.e).length ≤ _
          rw [List.length_map, flatten_len (xs ++ ys) (fun cs hc => (List.mem_append.1 hc).elim (hzx cs) (hzy cs)), List.length_append]
          exact Nat.le_trans (Nat.mul_le_mul_right _ hroom) z2) ⟨hz0, fun cs hc => (List.mem_append.1 hc).elim (hzx cs) (hzy cs)⟩ (Nat.le_succ _) (fun e => absurd e (Nat.ne_of_lt (Nat.lt_succ_self _))) (fun j x hx => by
          have hj : j < (olds ++ news).length := by rw [← hflat.1]; exact (List.getElem?_eq_some_iff.1 hx).1
          have hu := List.getElem?_eq_getElem hj
          refine ⟨_, ?_, hflat.2 j x _ hx hu⟩
          simp only [List.getElem?_toArray]
          rw [List.append_assoc]
          by_cases hjo : j < olds.length
          · rw [List.getElem?_append_left (by rw [htl, ← hol]; exact hjo), List.getElem?_take_of_lt (by rw [← hol]; exact hjo)]
            rw [List.getElem?_append_left hjo] at hu
            rw [← hcurpre j _ hu]
            simp
          · rw [List.getElem?_append_right (by rw [htl, ← hol]; omega), htl, ← hol]
            rw [List.getElem?_append_right (by omega)] at hu
            rw [List.getElem?_append_left (List.getElem?_eq_some_iff.1 hu).1]
            exact hu)
      refine ⟨_, _, p.μ, hr, hw.1, hw.2, rfl, _, upd_same _ _ _, Nat.le_refl _, fun _ => ⟨ti.size, xs.length + ys.length, by simp [Body.shape], hz0, .inr ⟨g, cap, g1, rfl, hroom, g4, ?_⟩⟩⟩
      exact ⟨_, _, _, setRow_heap w g cur _ et _ b4, by rw [hcs]; exact z2⟩
    · have holds : ∀ j u, olds[j]? = some u → w.drew.cell? ((⟨g, 0, none⟩ : Addr).add j) = some u := fun j u hu => by
        rw [add_at]
        exact ho2 j u hu
      obtain ⟨v, w', k1, k2⟩ := append_grow (ty := ty) (A := some ⟨g, 0, none⟩) (cap := cap) (olds := olds) (xs := xs) (id := id) (ver := ver + 1) (pub := pub) hT hR ht hti hz0 hzx hzy ho1 (run_firstCells_some w.drew ti.size xs.length _ _ cap olds hol holds) hs hrn (by omega) h63 hb hver (by omega)
      exact ⟨v, w', _, k1, k2⟩

theorem append_goes (hT : TOk P T) (hR : RM X p w) {t tx ty id : Nat} {x y : D} {vx vy : Value} (hx : RepD p (CW X p w) w x vx) (hy : RepD p (CW X p w) w y vy) {ef : Ef} (h : effAppend T p.mem id t tx x y = some ef) (hφ : ef.φ) :
    ∃ v w' μ', (Builtin.append_ #[t, tx] ty #[vx, vy]).run P w = .ok v w' ∧ RM X ⟨appU p.mem ef.upds, μ'⟩ w' ∧ Kept p (CW X p w) w ⟨appU p.mem ef.upds, μ'⟩ (CW X ⟨appU p.mem ef.upds, μ'⟩ w') w' ∧ RepD ⟨appU p.mem ef.upds, μ'⟩ (CW X ⟨appU p.mem ef.upds, μ'⟩ w') w' ef.val v := by
  unfold effAppend at h
  split at h
  · rename_i a b e z tix ht htx
    have hu := slice_of hT ht
    split at h
    · rename_i ti φ ys hti hsrc
      cases hz : Nat.beq ti.size 0 with
      | true => simp [hz] at h
      | false =>
        have hz0 : 0 < ti.size := Nat.pos_of_ne_zero fun e => by rw [e] at hz; cases hz
        simp only [hz, cond_false] at h
        rw [hti] at hsrc
        split at h
        · cases h
          obtain ⟨f1, f2, f3⟩ := hφ
          obtain ⟨k1, news, k2, k3⟩ := src_goes hT hR htx hy hsrc f1
          obtain rfl : vx = .slice none 0 0 := hx
          exact appendNil_goes hT hR hu (hT _ _ hti) hz0 k1 k2 k3 f2 f3 nver_lt
        · rename_i id' ver
          split at h
          · rename_i bv z xs pub hb
            cases hv : (Nat.beq bv ver && Nat.beq z ti.size) with
            | false => simp [hv] at h
            | true =>
              simp only [hv, cond_true, Option.some.injEq] at h
              simp only [Bool.and_eq_true] at hv
              obtain rfl := Nat.eq_of_beq_eq_true hv.1
              obtain rfl := Nat.eq_of_beq_eq_true hv.2
              subst h
              obtain ⟨f1, f2, f3⟩ := hφ
              obtain ⟨k1, news, k2, k3⟩ := src_goes hT hR htx hy hsrc f1
              exact appendOwn_goes hT hR hu (hT _ _ hti) hb k1 hx k2 k3 f2 f3
          · cases h
        · cases h
    · cases h
  · cases h
end
end Go.Proofs.YtcjeeoimjkhijaaDoor.Ab
