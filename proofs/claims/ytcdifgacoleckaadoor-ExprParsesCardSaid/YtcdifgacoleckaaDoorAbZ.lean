/- An own row told as data from here on. No condition. -/
import Derived.Test.YtcdifgacoleckaaDoorAbH
namespace Go.Proofs.YtcdifgacoleckaaDoor.Ab
open Go Go.RowKit
section
variable {P : Program} {X : Ctx}
theorem Le.trans {s s' s'' : St} (h : Le X s s') (k : Le X s' s'') : Le X s s'' := fun a w hR => k a w (h a w hR)
theorem le_frz {s : St} (t : Nat) {id ver z pub : Nat} {xs : List (List E)} (ht : s.tm t = .one (.own id ver)) (hm : s.mem id = some ⟨ver, .row z xs, pub⟩) :
    Le X s ⟨upd s.tm t (.one (.e (.sl xs))), upd s.mem id (some ⟨ver, .row z xs, (Body.row z xs).cells.length⟩)⟩ := by
  intro a w ⟨μ, hM, hsz, hdf, hr⟩
  have hf : frz s.mem (.own id ver) = some (.sl xs, [(id, ⟨ver, .row z xs, (Body.row z xs).cells.length⟩)]) := by
    simp only [frz, hm, Nat.beq_refl, cond_true]
  obtain ⟨r1, r2, r3, r4⟩ := RM.pubs [(id, ⟨ver, .row z xs, (Body.row z xs).cells.length⟩)] s.mem hM (frz_ok hf)
  refine ⟨μ, r1, hsz, hdf, fun t' => ?_⟩
  show RepD ⟨upd s.mem id _, μ⟩ _ w (upd s.tm t (.one (.e (.sl xs))) t') _
  by_cases h : t' = t
  · subst h
    rw [upd_same]
    have h0 := (hr t').kept r2
    rw [ht] at h0
    exact frz_rep r1 h0 hf r3
  · rw [upd_ne _ _ h]
    exact (hr t').kept r2
theorem le_frzB {s : St} (t : Nat) {id ver off z n pub : Nat} {cs : List E} (ht : s.tm t = .one (.bsl id ver off z n)) (hm : s.mem id = some ⟨ver, .box (.es cs), pub⟩) :
    Le X s ⟨upd s.tm t (.one (.e (.sl (chunksE z n (cs.drop off))))), upd s.mem id (some ⟨ver, .box (.es cs), (Body.box (.es cs)).cells.length⟩)⟩ := by
  intro a w ⟨μ, hM, hsz, hdf, hr⟩
  have hf : frz s.mem (.bsl id ver off z n) = some (.sl (chunksE z n (cs.drop off)), [(id, ⟨ver, .box (.es cs), (Body.box (.es cs)).cells.length⟩)]) := by
    simp only [frz, hm, Nat.beq_refl, cond_true]
  obtain ⟨r1, r2, r3, r4⟩ := RM.pubs [(id, ⟨ver, .box (.es cs), (Body.box (.es cs)).cells.length⟩)] s.mem hM (frz_ok hf)
  refine ⟨μ, r1, hsz, hdf, fun t' => ?_⟩
  show RepD ⟨upd s.mem id _, μ⟩ _ w (upd s.tm t (.one (.e (.sl (chunksE z n (cs.drop off))))) t') _
  by_cases h : t' = t
  · subst h
    rw [upd_same]
    have h0 := (hr t').kept r2
    rw [ht] at h0
    exact frz_rep r1 h0 hf r3
  · rw [upd_ne _ _ h]
    exact (hr t').kept r2
/-- a variable that is written no more: its cells are told to all -/
theorem le_pub {s : St} (id : Nat) {ver pub : Nat} {cs : List E} (hm : s.mem id = some ⟨ver, .box (.es cs), pub⟩) :
    Le X s ⟨s.tm, upd s.mem id (some ⟨ver, .box (.es cs), (Body.box (.es cs)).cells.length⟩)⟩ := by
  intro a w ⟨μ, hM, hsz, hdf, hr⟩
  have hf : frz s.mem (.bsl id ver 0 0 0) = some (.sl (chunksE 0 0 (cs.drop 0)), [(id, ⟨ver, .box (.es cs), (Body.box (.es cs)).cells.length⟩)]) := by
    simp only [frz, hm, Nat.beq_refl, cond_true]
  obtain ⟨r1, r2, r3, r4⟩ := RM.pubs [(id, ⟨ver, .box (.es cs), (Body.box (.es cs)).cells.length⟩)] s.mem hM (frz_ok hf)
  exact ⟨μ, r1, hsz, hdf, fun t' => (hr t').kept r2⟩
/-- a pointer to an own variable, told as data -/
theorem le_frzP {s : St} (t : Nat) {id ver off pub : Nat} {cs : List E} (ht : s.tm t = .one (.ptr id ver off)) (hm : s.mem id = some ⟨ver, .box (.es cs), pub⟩) :
    Le X s ⟨upd s.tm t (.one (.e (.pt (cs.drop off)))), upd s.mem id (some ⟨ver, .box (.es cs), (Body.box (.es cs)).cells.length⟩)⟩ := by
  intro a w ⟨μ, hM, hsz, hdf, hr⟩
  have hf : frz s.mem (.ptr id ver off) = some (.pt (cs.drop off), [(id, ⟨ver, .box (.es cs), (Body.box (.es cs)).cells.length⟩)]) := by
    simp only [frz, hm, Nat.beq_refl, cond_true]
  obtain ⟨r1, r2, r3, r4⟩ := RM.pubs [(id, ⟨ver, .box (.es cs), (Body.box (.es cs)).cells.length⟩)] s.mem hM (frz_ok hf)
  refine ⟨μ, r1, hsz, hdf, fun t' => ?_⟩
  show RepD ⟨upd s.mem id _, μ⟩ _ w (upd s.tm t (.one (.e (.pt (cs.drop off)))) t') _
  by_cases h : t' = t
  · subst h
    rw [upd_same]
    have h0 := (hr t').kept r2
    rw [ht] at h0
    exact frz_rep r1 h0 hf r3
  · rw [upd_ne _ _ h]
    exact (hr t').kept r2
/-- an own variable whose own parts are written no more: its cells are told as data; the variable itself may still be written -/
theorem le_box {s : St} (id : Nat) {ver pub : Nat} {c : Cs} {es : List E} {us : Upds} (hm : s.mem id = some ⟨ver, .box c, pub⟩) (hf : frzC s.mem c = some (es, us)) (hn : us.all (fun u => !Nat.beq u.1 id) = true) :
    Le X s ⟨s.tm, upd (updM s.mem us) id (some ⟨ver, .box (.es es), pub⟩)⟩ := by
  rw [updM_eq]
  intro a w ⟨μ, hM, hsz, hdf, hr⟩
  obtain ⟨r1, r2, r3, r4⟩ := RM.pubs us s.mem hM (frzC_ok hf)
  let M := appU s.mem us
  have hid : M id = some ⟨ver, .box c, pub⟩ := by
    rw [← hm]
    refine r4 id fun u hu e => ?_
    have := List.all_eq_true.1 hn u hu
    rw [e, Nat.beq_refl] at this
    cases this
  have hlen : (c.d0).length = (es.map D0.e).length := by
    have h := hM.blk id _ hm
    unfold BlkOk at h
    split at h
    · have h1 : c.d0 = [] := h.1
      cases c with
      | es xs => cases hf; rfl
      | ds xs =>
        have h1 : xs = [] := h1
        subst h1
        cases hf
        rfl
    · obtain ⟨_, _, _, _, cur, e, lo, hi, _, _, g6, g7⟩ := h
      obtain ⟨vs, hv1, hv2⟩ : ∃ vs : List Value, Rep2 ⟨s.mem, μ⟩ (CW X ⟨s.mem, μ⟩ w) w c.d0 vs ∧ True := by
        have g7 : ∀ (i : Nat) x, c.d0[i]? = some x → ∃ u, cur[i]? = some u ∧ Rep0 ⟨s.mem, μ⟩ (CW X ⟨s.mem, μ⟩ w) w x u := g7
        have g6 : c.d0.length ≤ cur.size := g6
        refine ⟨cur.toList.take c.d0.length, ⟨by have hz : cur.toList.length = cur.size := Array.length_toList; rw [List.length_take]; omega, fun i x u hx hu => ?_⟩, trivial⟩
        obtain ⟨u', h1, h2⟩ := g7 i x hx
        have hi := (List.getElem?_eq_some_iff.1 hx).1
        rw [List.getElem?_take, if_pos hi, Array.getElem?_toList, h1] at hu
        cases hu
        exact h2
      have := frzC_rep r1 (hv1.kept r2) hf r3
      rw [hv1.1, this.1]
  let M' : Mem := upd M id (some ⟨ver, .box (.es es), pub⟩)
  have hget : ∀ id' b', M' id' = some b' → ∃ b, M id' = some b ∧ b.ver = b'.ver ∧ b.pub = b'.pub ∧ b.body.shape = b'.body.shape := fun id' b' h => by
    by_cases hi : id' = id
    · subst hi
      have h : upd M id' _ id' = some b' := h
      rw [upd_same] at h
      cases h
      exact ⟨_, hid, rfl, rfl, by show (0, c.d0.length) = (0, (es.map D0.e).length); rw [hlen]⟩
    · have h : upd M id _ id' = some b' := h
      rw [upd_ne _ _ hi] at h
      exact ⟨b', h, rfl, rfl, rfl⟩
  have hput : ∀ id' b, M id' = some b → ∃ b', M' id' = some b' ∧ b.ver = b'.ver ∧ b.pub = b'.pub ∧ b'.body.shape = b.body.shape := fun id' b h => by
    by_cases hi : id' = id
    · subst hi
      rw [hid] at h
      cases h
      exact ⟨⟨ver, .box (.es es), pub⟩, upd_same .., rfl, rfl, by show (0, (es.map D0.e).length) = (0, c.d0.length); rw [hlen]⟩
    · exact ⟨b, by show upd M id _ id' = some b; rw [upd_ne _ _ hi]; exact h, rfl, rfl, rfl⟩
  have hC : ∀ b o u, CW X ⟨M, μ⟩ w b o u → CW X ⟨M', μ⟩ w b o u := fun b o u ⟨k1, k2, k3⟩ => ⟨k1, k2, fun ho id' b' m1 m2 => by
    obtain ⟨b0, e1, e2, e3, e4⟩ := hget id' b' m1
    rw [← e3]
    exact k3 ho id' b0 e1 m2⟩
  have hK : Kept ⟨M, μ⟩ (CW X ⟨M, μ⟩ w) w ⟨M', μ⟩ (CW X ⟨M', μ⟩ w) w := Kept.of hC (fun _ _ h => h) fun id' b h => by
    obtain ⟨b', e1, e2, e3, e4⟩ := hput id' b h
    exact ⟨b', e1, Nat.le_of_eq e2, fun _ => ⟨rfl, e4⟩⟩
  refine ⟨μ, ⟨r1.bel, fun id' b' hb => ?_⟩, hsz, hdf, fun t' => ((hr t').kept r2).kept hK⟩
  obtain ⟨b0, e1, e2, e3, e4⟩ := hget id' b' hb
  have h := r1.blk id' b0 e1
  by_cases hi : id' = id
  · subst hi
    have hb : upd M id' _ id' = some b' := hb
    rw [upd_same] at hb
    cases hb
    have e1 : M id' = some b0 := e1
    rw [hid] at e1
    cases e1
    unfold BlkOk at h ⊢
    show match μ id' with | none => _ | some g => _
    cases hg : μ id' with
    | none =>
      simp only [hg] at h ⊢
      obtain ⟨h1, h2, h3⟩ := h
      have h1 : c.d0 = [] := h1
      refine ⟨?_, h2, trivial⟩
      show es.map D0.e = []
      refine List.eq_nil_of_length_eq_zero ?_
      rw [← hlen, h1]
      rfl
    | some g =>
      simp only [hg] at h ⊢
      obtain ⟨_, g1, g2, g3, cur, e, lo, hi, g4, g5, g6, g7⟩ := h
      have g7 : ∀ (i : Nat) x, c.d0[i]? = some x → ∃ u, cur[i]? = some u ∧ Rep0 ⟨M, μ⟩ (CW X ⟨M, μ⟩ w) w x u := g7
      have g6 : c.d0.length ≤ cur.size := g6
      have g3 : pub ≤ c.d0.length := g3
      have hR2 : Rep2 ⟨M, μ⟩ (CW X ⟨M, μ⟩ w) w c.d0 (cur.toList.take c.d0.length) := ⟨by have hz : cur.toList.length = cur.size := Array.length_toList; rw [List.length_take]; omega, fun i x u hx hu => by
        obtain ⟨u', h1, h2⟩ := g7 i x hx
        have hi := (List.getElem?_eq_some_iff.1 hx).1
        rw [List.getElem?_take, if_pos hi, Array.getElem?_toList, h1] at hu
        cases hu
        exact h2⟩
      have hE := frzC_rep r1 hR2 hf r3
      refine ⟨trivial, g1, fun id'' b'' m1 m2 => ?_, by show pub ≤ (es.map D0.e).length; rw [← hlen]; exact g3, cur, e, lo, hi, g4, g5, by show (es.map D0.e).length ≤ _; rw [← hlen]; exact g6, fun i x hx => ?_⟩
      · obtain ⟨b1, f1, _⟩ := hget id'' b'' m1
        exact g2 id'' b1 f1 m2
      · have hx : (es.map D0.e)[i]? = some x := hx
        have hi : i < c.d0.length := by rw [hlen]; exact (List.getElem?_eq_some_iff.1 hx).1
        have hcu : i < cur.size := Nat.lt_of_lt_of_le hi g6
        refine ⟨cur[i], Array.getElem?_eq_getElem hcu, ?_⟩
        refine (hE.2 i x cur[i] hx ?_).kept hK
        rw [List.getElem?_take, if_pos hi, Array.getElem?_toList, Array.getElem?_eq_getElem hcu]
  · have hb : upd M id _ id' = some b' := hb
    rw [upd_ne _ _ hi] at hb
    have e1 : M id' = some b0 := e1
    rw [hb] at e1
    cases e1
    unfold BlkOk at h ⊢
    show match μ id' with | none => _ | some g => _
    cases hg : μ id' with
    | none =>
      simp only [hg] at h ⊢
      exact h
    | some g =>
      simp only [hg] at h ⊢
      obtain ⟨g0, g1, g2, g3, cur, e, lo, hi, g4, g5, g6, g7⟩ := h
      refine ⟨g0, g1, fun id'' b'' m1 m2 => ?_, g3, cur, e, lo, hi, g4, g5, g6, fun i x hx => ?_⟩
      · obtain ⟨b1, f1, _⟩ := hget id'' b'' m1
        exact g2 id'' b1 f1 m2
      · obtain ⟨u, u1, u2⟩ := g7 i x hx
        exact ⟨u, u1, u2.kept hK⟩
/-- an own row told as an own variable with a slice into it: it may be lent and comes back in its place -/
theorem le_rowbox {s : St} (t : Nat) {id ver z : Nat} {xs : List (List E)} (ht : s.tm t = .one (.own id ver)) (hm : s.mem id = some ⟨ver, .row z xs, 0⟩) (hne : 0 < xs.length) :
    Le X s ⟨upd s.tm t (.one (.bsl id (ver + 1) 0 z xs.length)), upd s.mem id (some ⟨ver + 1, .box (.es xs.flatten), 0⟩)⟩ := by
  intro a w ⟨μ, hM, hsz, hdf, hr⟩
  let M' : Mem := upd s.mem id (some ⟨ver + 1, .box (.es xs.flatten), 0⟩)
  obtain ⟨hz0, hz⟩ := row_ok hM hm
  have hfl := flatten_len xs hz
  have hC : ∀ b o u, CW X ⟨s.mem, μ⟩ w b o u → CW X ⟨M', μ⟩ w b o u := fun b o u ⟨k1, k2, k3⟩ => ⟨k1, k2, fun ho id' b' m1 m2 => by
    by_cases hi : id' = id
    · subst hi
      have := k3 ho id' _ hm m2
      exact absurd this (Nat.not_lt_zero _)
    · have m1 : upd s.mem id _ id' = some b' := m1
      rw [upd_ne _ _ hi] at m1
      exact k3 ho id' b' m1 m2⟩
  have hK : Kept ⟨s.mem, μ⟩ (CW X ⟨s.mem, μ⟩ w) w ⟨M', μ⟩ (CW X ⟨M', μ⟩ w) w := Kept.of hC (fun _ _ h => h) fun id' b h => by
    by_cases hi : id' = id
    · subst hi
      have h : s.mem id' = some b := h
      rw [hm] at h
      cases h
      exact ⟨_, upd_same .., Nat.le_succ _, fun e => absurd e (Nat.ne_of_lt (Nat.lt_succ_self _))⟩
    · exact ⟨b, by show upd s.mem id _ id' = some b; rw [upd_ne _ _ hi]; exact h, Nat.le_refl _, fun _ => ⟨rfl, rfl⟩⟩
  have hb0 := hM.blk id _ hm
  refine ⟨μ, ⟨hM.bel, fun id' b' hb => ?_⟩, hsz, hdf, fun t' => ?_⟩
  · by_cases hi : id' = id
    · subst hi
      have hb : upd s.mem id' _ id' = some b' := hb
      rw [upd_same] at hb
      cases hb
      unfold BlkOk at hb0 ⊢
      show match μ id' with | none => _ | some g => _
      cases hg : μ id' with
      | none =>
        simp only [hg] at hb0
        have h1 : xs.flatten.map D0.e = [] := hb0.1
        have h2 : xs.flatten.length = 0 := by rw [List.map_eq_nil_iff.1 h1]; rfl
        rw [hfl] at h2
        exact absurd h2 (Nat.ne_of_gt (Nat.mul_pos hne hz0))
      | some g =>
        simp only [hg] at hb0 ⊢
        obtain ⟨g0, g1, g2, g3, cur, e, lo, hi, g4, g5, g6, g7⟩ := hb0
        refine ⟨trivial, g1, fun id'' b'' m1 m2 => ?_, Nat.zero_le _, cur, e, lo, hi, g4, g5, g6, fun i x hx => ?_⟩
        · by_cases hj : id'' = id'
          · exact hj
          · have m1 : upd s.mem id' _ id'' = some b'' := m1
            rw [upd_ne _ _ hj] at m1
            exact g2 id'' b'' m1 m2
        · obtain ⟨u, u1, u2⟩ := g7 i x hx
          exact ⟨u, u1, u2.kept hK⟩
    · have hb : upd s.mem id _ id' = some b' := hb
      rw [upd_ne _ _ hi] at hb
      have h := hM.blk id' b' hb
      unfold BlkOk at h ⊢
      show match μ id' with | none => _ | some g => _
      cases hg : μ id' with
      | none => simp only [hg] at h ⊢; exact h
      | some g =>
        simp only [hg] at h ⊢
        obtain ⟨g0, g1, g2, g3, cur, e, lo, hi', g4, g5, g6, g7⟩ := h
        refine ⟨g0, g1, fun id'' b'' m1 m2 => ?_, g3, cur, e, lo, hi', g4, g5, g6, fun i x hx => ?_⟩
        · by_cases hj : id'' = id
          · subst hj
            exact g2 id'' _ hm m2
          · have m1 : upd s.mem id _ id'' = some b'' := m1
            rw [upd_ne _ _ hj] at m1
            exact g2 id'' b'' m1 m2
        · obtain ⟨u, u1, u2⟩ := g7 i x hx
          exact ⟨u, u1, u2.kept hK⟩
  · show RepD ⟨M', μ⟩ _ w (upd s.tm t (.one (.bsl id (ver + 1) 0 z xs.length)) t') _
    by_cases h : t' = t
    · subst h
      rw [upd_same]
      have h0 := hr t'
      rw [ht] at h0
      obtain ⟨k0, blk, k1, k2, k3⟩ := h0
      have k1 : s.mem id = some blk := k1
      rw [hm] at k1
      cases k1
      obtain ⟨z', n', q1, q2, q3⟩ := k3 rfl
      simp only [Body.shape, Prod.mk.injEq] at q1
      obtain ⟨rfl, rfl⟩ := q1
      refine ⟨k0, _, upd_same .., Nat.le_refl _, fun _ => ⟨hz0, ?_, ?_⟩⟩
      · show 0 + xs.length * z ≤ (xs.flatten.map D0.e).length
        rw [List.length_map, hfl]
        omega
      · rcases q3 with ⟨q3, _⟩ | ⟨g, cap, g1, g2, g3, g4, _⟩
        · omega
        · exact ⟨g, cap, g1, g2, g3, g4⟩
    · rw [upd_ne _ _ h]
      exact (hr t').kept hK
theorem Lex.app {ops : Array Oper} {l1 l2 : List Oper} {s s1 s2 : St} (h : Lex P X ops l1 s s1) (k : Lex P X ops l2 s1 s2) : Lex P X ops (l1 ++ l2) s s2 := by
  induction h with
  | nil s => exact k
  | cons h _ ih => exact .cons h (ih k)
/-- a region cut in two, with its state told anew between -/
theorem lexCut {ops : Array Oper} {l : List Oper} (n : Nat) {o : Oper} {r : List Oper} {s s1 s1' s2 : St} (h : Lex P X ops (l.take n) s s1) (hl : Le X s1 s1') (hd : l.drop n = o :: r) (k : Lex P X ops (o :: r) s1' s2) : Lex P X ops l s s2 := by
  rw [← List.take_append_drop n l, hd]
  refine h.app ?_
  cases k with
  | cons h k => exact .cons (fun Q a w hR => h Q a w (hl a w hR)) k
end
end Go.Proofs.YtcdifgacoleckaaDoor.Ab
