/- Part of the proof: steps of the program over abstract states. No condition. -/
import Derived.Test.YtcdifgacoleckaaGreatDoorG05
import Derived.Test.YtcdifgacoleckaaGreatDoorG04
import Ieee.Arith
set_option linter.unusedVariables false
set_option linter.unusedSimpArgs false
namespace Go.Proofs.YtcdifgacoleckaaGreatDoor.Ab
open Go Go.RowKit
def zCE (u : Nat -> Value) : Nat -> List Bool -> List D0 -> List D0
  | k, b :: m, x :: r => (bif b then .e (.v (u k)) else x) :: zCE u (k + 1) m r
  | _, _, r => r
def zK0 : List Bool -> List D0 -> List D0 -> List D0
  | b :: m, x :: r, y :: s => (bif b then x else y) :: zK0 m r s
  | _, _, s => s
theorem zFe (u : Nat -> Value) : ∀ (m : List Bool) (r : List D0) (k j : Nat), (zCE u k m r)[j]? = (r[j]?).map fun x => bif m.getD j false then .e (.v (u (k + j))) else x
  | [], r, k, j => by
    rw [zCE]
    · cases r[j]? <;> rfl
    · intro _ _ _ _ h; cases h
  | b :: m, [], k, j => by
    rw [zCE]
    · rfl
    · intro _ _ _ _ _ h; cases h
  | b :: m, x :: r, k, 0 => rfl
  | b :: m, x :: r, k, j + 1 => by
    rw [zCE]
    show (zCE u (k + 1) m r)[j]? = _
    rw [zFe u m r (k + 1) j, show k + 1 + j = k + (j + 1) by omega]
    rfl
theorem zD4 (u : Nat -> Value) : ∀ (m : List Bool) (r : List D0) (k : Nat), (zCE u k m r).length = r.length
  | [], r, k => by
    rw [zCE]
    intro _ _ _ _ h; cases h
  | b :: m, [], k => by
    rw [zCE]
    intro _ _ _ _ _ h; cases h
  | b :: m, x :: r, k => by
    rw [zCE, List.length_cons, List.length_cons, zD4 u m r]
theorem zMb : ∀ (m : List Bool) (r s : List D0) (j : Nat), r.length = s.length -> m.getD j false = true -> (zK0 m r s)[j]? = r[j]?
  | [], r, s, j, _, h => by cases h
  | b :: m, [], s, j, hl, h => by
    rw [zK0]
    · cases s with
      | nil => rfl
      | cons y s => cases hl
    · intro _ _ _ _ _ _ _ h; cases h
  | b :: m, x :: r, [], j, hl, h => by cases hl
  | b :: m, x :: r, y :: s, 0, hl, h => by
    have h : b = true := h
    subst h
    rfl
  | b :: m, x :: r, y :: s, j + 1, hl, h => by
    rw [zK0]
    exact zMb m r s j (Nat.succ.inj hl) h
section
variable {P : Program} {X : Ctx}
theorem RM.retell {M : Mem} {μ : Nat -> Option Nat} {w : World} {i ver pub : Nat} {c c' : Cs} (h : RM X ⟨M, μ⟩ w) (hm : M i = some ⟨ver, .box c, pub⟩) (hl : c'.d0.length = c.d0.length)
    (hc : ∀ cur : Array Value, (∀ (j : Nat) x, c.d0[j]? = some x -> ∃ u, cur[j]? = some u /\ zCQ ⟨M, μ⟩ (CW X ⟨M, μ⟩ w) w x u) -> (∀ g, μ i = some g -> ∃ e fr, w.heap[g]? = some (.cells cur e fr)) -> ∀ (j : Nat) x, c'.d0[j]? = some x -> ∃ u, cur[j]? = some u /\ zCQ ⟨M, μ⟩ (CW X ⟨M, μ⟩ w) w x u) :
    RM X ⟨upd M i (some ⟨ver, .box c', pub⟩), μ⟩ w /\ Kept ⟨M, μ⟩ (CW X ⟨M, μ⟩ w) w ⟨upd M i (some ⟨ver, .box c', pub⟩), μ⟩ (CW X ⟨upd M i (some ⟨ver, .box c', pub⟩), μ⟩ w) w := by
  let M' : Mem := upd M i (some ⟨ver, .box c', pub⟩)
  have hget : ∀ id' b', M' id' = some b' -> ∃ b, M id' = some b /\ b.ver = b'.ver /\ b.pub = b'.pub /\ b.body.shape = b'.body.shape := fun id' b' h => by
    by_cases hi : id' = i
    · subst hi
      have h : upd M id' _ id' = some b' := h
      rw [zAn] at h
      cases h
      exact ⟨_, hm, rfl, rfl, by show (0, c.d0.length) = (0, c'.d0.length); rw [hl]⟩
    · have h : upd M i _ id' = some b' := h
      rw [zAB _ _ hi] at h
      exact ⟨b', h, rfl, rfl, rfl⟩
  have hput : ∀ id' b, M id' = some b -> ∃ b', M' id' = some b' /\ b.ver = b'.ver /\ b.pub = b'.pub /\ b'.body.shape = b.body.shape := fun id' b h => by
    by_cases hi : id' = i
    · subst hi
      rw [hm] at h
      cases h
      exact ⟨⟨ver, .box c', pub⟩, zAn .., rfl, rfl, by show (0, c'.d0.length) = (0, c.d0.length); rw [hl]⟩
    · exact ⟨b, by show upd M i _ id' = some b; rw [zAB _ _ hi]; exact h, rfl, rfl, rfl⟩
  have hC : ∀ b o u, CW X ⟨M, μ⟩ w b o u -> CW X ⟨M', μ⟩ w b o u := fun b o u ⟨k1, k2, k3⟩ => ⟨k1, k2, fun ho id' b' m1 m2 => by
    obtain ⟨b0, e1, e2, e3, e4⟩ := hget id' b' m1
    rw [<-e3]
    exact k3 ho id' b0 e1 m2⟩
  have hK : Kept ⟨M, μ⟩ (CW X ⟨M, μ⟩ w) w ⟨M', μ⟩ (CW X ⟨M', μ⟩ w) w := Kept.of hC (fun _ _ h => h) fun id' b h => by
    obtain ⟨b', e1, e2, e3, e4⟩ := hput id' b h
    exact ⟨b', e1, Nat.le_of_eq e2, fun _ => ⟨rfl, e4⟩⟩
  refine ⟨⟨h.bel, fun id' b' hb => ?_⟩, hK⟩
  obtain ⟨b0, e1, e2, e3, e4⟩ := hget id' b' hb
  have h0 := h.blk id' b0 e1
  by_cases hi : id' = i
  · subst hi
    have hb : upd M id' _ id' = some b' := hb
    rw [zAn] at hb
    cases hb
    have e1 : M id' = some b0 := e1
    rw [hm] at e1
    cases e1
    unfold zAP at h0 ⊢
    show match μ id' with | none => _ | some g => _
    cases hg : μ id' with
    | none =>
      simp only [hg] at h0 ⊢
      obtain ⟨h1, h2, h3⟩ := h0
      have h1 : c.d0 = [] := h1
      refine ⟨?_, h2, trivial⟩
      show c'.d0 = []
      refine List.eq_nil_of_length_eq_zero ?_
      rw [hl, h1]
      rfl
    | some g =>
      simp only [hg] at h0 ⊢
      obtain ⟨_, g1, g2, g3, cur, e, lo, hi, g4, g5, g6, g7⟩ := h0
      have g6 : c.d0.length <= cur.size := g6
      have g3 : pub <= c.d0.length := g3
      refine ⟨trivial, g1, fun id'' b'' m1 m2 => ?_, by show pub <= c'.d0.length; rw [hl]; exact g3, cur, e, lo, hi, g4, g5, by show c'.d0.length <= _; rw [hl]; exact g6, fun i x hx => ?_⟩
      · obtain ⟨b1, f1, _⟩ := hget id'' b'' m1
        exact g2 id'' b1 f1 m2
      · obtain ⟨u, u1, u2⟩ := hc cur g7 (fun g' hg' => by rw [hg] at hg'; cases hg'; exact ⟨e, (lo, hi), g4⟩) i x hx
        exact ⟨u, u1, u2.kept hK⟩
  · have hb : upd M i _ id' = some b' := hb
    rw [zAB _ _ hi] at hb
    have e1 : M id' = some b0 := e1
    rw [hb] at e1
    cases e1
    unfold zAP at h0 ⊢
    show match μ id' with | none => _ | some g => _
    cases hg : μ id' with
    | none =>
      simp only [hg] at h0 ⊢
      exact h0
    | some g =>
      simp only [hg] at h0 ⊢
      obtain ⟨g0, g1, g2, g3, cur, e, lo, hi, g4, g5, g6, g7⟩ := h0
      refine ⟨g0, g1, fun id'' b'' m1 m2 => ?_, g3, cur, e, lo, hi, g4, g5, g6, fun i x hx => ?_⟩
      · obtain ⟨b1, f1, _⟩ := hget id'' b'' m1
        exact g2 id'' b1 f1 m2
      · obtain ⟨u, u1, u2⟩ := g7 i x hx
        exact ⟨u, u1, u2.kept hK⟩
theorem RM.hide {M : Mem} {μ : Nat -> Option Nat} {w : World} {i ver : Nat} {mask : List Bool} {c : Cs} {cs : List D0} {e2 : (Nat -> Value) -> List E} (h : RM X ⟨M, μ⟩ w) (hm : M i = some ⟨ver, .box c, 0⟩) (hcs : c.d0 = cs) (h2 : ∀ u, (e2 u).map D0.e = zCE u 0 mask cs) :
    ∃ u, RM X ⟨upd M i (some ⟨ver, .box (.es (e2 u)), 0⟩), μ⟩ w /\ Kept ⟨M, μ⟩ (CW X ⟨M, μ⟩ w) w ⟨upd M i (some ⟨ver, .box (.es (e2 u)), 0⟩), μ⟩ (CW X ⟨upd M i (some ⟨ver, .box (.es (e2 u)), 0⟩), μ⟩ w) w ∧
      ∀ (j : Nat) x, mask.getD j false = true -> cs[j]? = some x -> zCQ ⟨M, μ⟩ (CW X ⟨M, μ⟩ w) w x (u j) := by
  subst hcs
  have hb := h.blk i _ hm
  have hcell : ∃ cur : Array Value, (∀ g, μ i = some g -> ∃ e fr, w.heap[g]? = some (.cells cur e fr)) /\ ∀ (j : Nat) x, c.d0[j]? = some x -> ∃ u, cur[j]? = some u /\ zCQ ⟨M, μ⟩ (CW X ⟨M, μ⟩ w) w x u := by
    unfold zAP at hb
    cases hg : μ i with
    | none =>
      simp only [hg] at hb
      have h1 : c.d0 = [] := hb.1
      exact ⟨#[], fun g h => (nomatch h), fun j x hx => by rw [h1] at hx; cases hx⟩
    | some g =>
      simp only [hg] at hb
      obtain ⟨_, _, _, _, cur, e, lo, hi, g4, _, _, g7⟩ := hb
      exact ⟨cur, fun g' h => by cases h; exact ⟨e, (lo, hi), g4⟩, g7⟩
  obtain ⟨cur, k1, k2⟩ := hcell
  let u : Nat -> Value := fun j => cur.getD j undef
  have hu : ∀ (j : Nat) x, c.d0[j]? = some x -> cur[j]? = some (u j) /\ zCQ ⟨M, μ⟩ (CW X ⟨M, μ⟩ w) w x (u j) := fun j x hx => by
    obtain ⟨v, v1, v2⟩ := k2 j x hx
    have : u j = v := by show cur.getD j undef = v; rw [Array.getD_eq_getD_getElem?, v1]; rfl
    rw [this]
    exact ⟨v1, v2⟩
  have hl : (Cs.es (e2 u)).d0.length = c.d0.length := by
    show ((e2 u).map D0.e).length = c.d0.length
    rw [h2, zD4]
  obtain ⟨r1, r2⟩ := RM.retell h hm hl fun cur' q1 q2 j x hx => by
    have hx : ((e2 u).map D0.e)[j]? = some x := hx
    rw [h2, zFe] at hx
    obtain ⟨y, hy, rfl⟩ := Option.map_eq_some_iff.1 hx
    obtain ⟨v', v1', v2'⟩ := q1 j y hy
    cases hb : mask.getD j false with
    | false => exact ⟨v', v1', v2'⟩
    | true =>
      refine ⟨v', v1', ?_⟩
      rw [Nat.zero_add]
      have e : v' = u j := by
        cases hg : μ i with
        | some g =>
          obtain ⟨e1, f1, w1⟩ := q2 g hg
          obtain ⟨e2', f2, w2⟩ := k1 g hg
          rw [w1] at w2
          cases w2
          have := (hu j y hy).1
          rw [v1'] at this
          cases this
          rfl
        | none =>
          have hb0 := h.blk i _ hm
          unfold zAP at hb0
          simp only [hg] at hb0
          have h1 : c.d0 = [] := hb0.1
          rw [h1] at hy
          cases hy
      rw [e]
      exact .v _ (zCQ.one (hu j y hy).2)
  exact ⟨u, r1, r2, fun j x _ hx => (hu j x hx).2⟩
theorem RM.show {M : Mem} {μ : Nat -> Option Nat} {w : World} {i ver : Nat} {mask : List Bool} {cs cs3 : List D0} {e3 : List E} {u : Nat -> Value} (h : RM X ⟨M, μ⟩ w) (hm : M i = some ⟨ver, .box (.es e3), 0⟩) (h3 : e3.map D0.e = zCE u 0 mask cs3) (hx : ∀ j, mask.getD j false = true -> cs3[j]? = cs[j]?)
    (hu : ∀ (j : Nat) x, mask.getD j false = true -> cs[j]? = some x -> zCQ ⟨M, μ⟩ (CW X ⟨M, μ⟩ w) w x (u j)) :
    RM X ⟨upd M i (some ⟨ver, .box (.ds cs3), 0⟩), μ⟩ w /\ Kept ⟨M, μ⟩ (CW X ⟨M, μ⟩ w) w ⟨upd M i (some ⟨ver, .box (.ds cs3), 0⟩), μ⟩ (CW X ⟨upd M i (some ⟨ver, .box (.ds cs3), 0⟩), μ⟩ w) w := by
  refine RM.retell h hm ?_ fun cur q1 q2 j x hxj => ?_
  · show cs3.length = (e3.map D0.e).length
    rw [h3, zD4]
  · have hxj : cs3[j]? = some x := hxj
    have q := q1 j (bif mask.getD j false then .e (.v (u (0 + j))) else x) (by
      show (e3.map D0.e)[j]? = _
      rw [h3, zFe, hxj]
      rfl)
    cases hb : mask.getD j false with
    | false => rw [hb] at q; exact q
    | true =>
      rw [hb, Nat.zero_add] at q
      obtain ⟨v, v1, v2⟩ := q
      have v2 : RepE _ (.v (u j)) v := v2
      have : v = u j := by cases v2; rfl
      rw [hx j hb] at hxj
      exact ⟨v, v1, this ▸ hu j x hb hxj⟩
abbrev zDF (e : List E) : List (Nat × Blk) := [(900000, ⟨0, .box (.es e), 0⟩)]
theorem zJO {i : Nat} {e e' : List E} : zCT (zDF e) (zDF e') [(900000, i)] [] [] = true := by
  unfold zCT
  simp [zDF, lkN, zAl, isS, Blk.isBox, zWP, zQM, zTn, ndK, swL]
theorem zSp (ρ : Rn) (k : Nat) (e : List E) : Blk.out ρ k ⟨0, .box (.es e), 0⟩ = ⟨0 + k, .box (.es e), 0⟩ := rfl
theorem zMc {M : Mem} {i ver : Nat} {b : Blk} {e : List E} (hm : M i = some b) (hv : b.ver = ver) : zDo M (zDF e) [(900000, i)] [] [] = upd M i (some ⟨ver, .box (.es e), 0⟩) := by
  funext id
  unfold zDo upd
  cases h : Nat.beq id i with
  | true =>
    obtain rfl := Nat.eq_of_beq_eq_true h
    simp only [swL, lkN, h, cond_true]
    show some (Blk.out _ (zA7 M id) ⟨0, .box (.es e), 0⟩) = _
    rw [zSp, show zA7 M id = ver by unfold zA7; rw [hm]; exact hv, Nat.zero_add]
  | false => simp only [swL, lkN, h, cond_false]
theorem zJI {gs : List (Nat × List E)} {ops : Array Oper} {s : St} {o : Oper} {fo : Operand} {f : Nat} {args : Array Operand} {ts : Array TypeId} (i : Nat) (mask : List Bool) {ver : Nat} {c : Cs} {cs : List D0} {e2 e3 : (Nat -> Value) -> List E} (hop : o.op = .call ⟨.value fo, args, ts⟩) (hgd : zBT ops s o = .free) (hfo : (s.ev fo).strip = .one (.clo f [])) {az : List D} {r : D}
    (hm : s.mem i = some ⟨ver, .box c, 0⟩) (hcs : c.d0 = cs) (h2 : ∀ u, (e2 u).map D0.e = zCE u 0 mask cs) (h3 : ∀ u, (e3 u).map D0.e = zCE u 0 mask (zK0 mask cs ((e3 fun _ => undef).map D0.e))) (hlen : cs.length = (e3 fun _ => undef).length)
    (has : ∀ u, ArgsH (upd s.mem i (some ⟨ver, .box (.es (e2 u)), 0⟩)) (zBN (upd s.mem i (some ⟨ver, .box (.es (e2 u)), 0⟩)) [(900000, i)]) (fun c => isS (zAl (zDF (e2 u)) c)) (args.toList.map fun x => (s.ev x).strip) az []) (hn : ∀ p ∈ zAR s (fo :: args.toList), p) (hgl : ∀ x ∈ gs, s.tm (1000000 + x.1) = .one (.eptr x.2))
    (hfn : ∀ u, FnH P f gs (zDF (e2 u)) az r (zDF (e3 u))) (hr0 : ∀ ρ, r.rn ρ = r) (hd : zB0 X.nt o.dst = true) : OpT P X ops o s ⟨zF1 s.tm o.dst r, upd s.mem i (some ⟨ver, .box (.ds (zK0 mask cs ((e3 fun _ => undef).map D0.e))), 0⟩)⟩ := by
  intro Q a w ⟨μ, hM, hsz, hdf, hr⟩
  rw [if_pos (zCa hgd a)]
  obtain ⟨u, r1, r2, hu⟩ := RM.hide hM hm hcs h2
  obtain ⟨⟨fn, cd, k1, k2, k34⟩, hfn⟩ := hfn u
  have has := has u
  let M2 : Mem := upd s.mem i (some ⟨ver, .box (.es (e2 u)), 0⟩)
  have hM2 : M2 i = some ⟨ver, .box (.es (e2 u)), 0⟩ := zAn ..
  have hids : zCT (zDF (e2 u)) (zDF (e3 u)) [(900000, i)] [] [] = true := zJO
  have hin : zHj M2 (zDF (e2 u)) (zBN M2 ([(900000, i)] ++ [])) ([(900000, i)] ++ []) := by
    refine ⟨?_, trivial⟩
    show M2 i = some (Blk.out _ (zA7 M2 i) ⟨0, .box (.es (e2 u)), 0⟩)
    rw [zSp, show zA7 M2 i = ver by unfold zA7; rw [hM2], Nat.zero_add, hM2]
  have hlen' : (e3 u).length = (e2 u).length := by
    have a1 := congrArg List.length (h2 u)
    have a2 := congrArg List.length (h3 u)
    have a3 := congrArg List.length (h3 fun _ => undef)
    rw [List.length_map, zD4] at a1 a2 a3
    omega
  have hsh : zJe (zDF (e2 u)) (zDF (e3 u)) [(900000, i)] := by
    refine ⟨?_, trivial⟩
    show some (0, ((e3 u).map D0.e).length) = some (0, ((e2 u).map D0.e).length)
    rw [List.length_map, List.length_map, hlen']
  obtain ⟨k3, k4⟩ := Bool.or_eq_false_iff.1 k34
  have hf := zAA (zBn hr fo) (zAC hn fo (List.mem_cons_self ..))
  rw [hfo] at hf
  obtain ⟨vs0, hfv, hl0, hcp⟩ := hf
  rw [zCG k4] at hfv
  obtain rfl : vs0 = [] := List.eq_nil_of_length_eq_zero hl0.symm
  obtain ⟨hF, hCin, hRc, hInv⟩ := RM.lend r1 hids hin
  let I : Nat -> Nat -> Prop := fun b o => (¬ X.own b -> X.I b o) /\ (X.own b -> ∀ id blk, M2 id = some blk -> μ id = some b -> o < blk.pub)
  let μc : Nat -> Option Nat := fun c => match lkN ([(900000, i)] ++ []) c with | some i => μ i | none => none
  have hrep := zCZ (vs := (args.map a.eval).toList) r1 hCin hInv has ⟨by simp, fun i d v hd hv => by
      simp only [List.getElem?_map, Array.toList_map, Option.map_eq_some_iff] at hd hv
      obtain ⟨x, hx, rfl⟩ := hd
      obtain ⟨y, hy, rfl⟩ := hv
      rw [hx] at hy
      cases hy
      exact (zAA (zBn hr x) (zAC hn x (List.mem_cons_of_mem _ (List.mem_of_getElem? hx)))).kept r2⟩ (fun u hu => nomatch hu)
  have hcall : (execOp a.eval o).run P w = .ok (.enter f (args.map a.eval)) w := by
    have hb : fn.body.isNone = false := by rw [k2]; rfl
    have hne : ¬ (fn.name = "runtime.NumGoroutine") := by simpa using k3
    simp [execOp, hop, resolve, hfv, Deferred.ofValue, invoke, callFunc, k1, hne, k2]
  unfold Oper.wp
  rw [hcall, Oper.upon_enter]
  refine (hfn w (args.map a.eval) I μc hRc (fun x hx => by
    have h1 := hr (1000000 + x.1)
    rw [hgl x hx, zBH] at h1
    exact zCx hCin (h1.kept r2)) hrep).mono ?_
  rintro e w' ⟨v, rfl, μf, hMf, hkeep, hv⟩
  obtain ⟨μ', t1, t2, t3, t4⟩ := RM.back r1 hids hin hsh rfl rfl hMf hkeep
  have hv' := zOg t3 t4 hv
  rw [hr0] at hv'
  have eM : zDo M2 (zDF (e3 u)) [(900000, i)] [] [] = upd M2 i (some ⟨ver, .box (.es (e3 u)), 0⟩) := zMc hM2 rfl
  rw [show zDo (upd s.mem i (some ⟨ver, .box (.es (e2 u)), 0⟩)) (zDF (e3 u)) [(900000, i)] [] [] = _ from eM] at t1 t2 hv'
  obtain ⟨q1, q2⟩ := RM.show (cs := cs) t1 (zAn ..) (h3 u) (fun j hj => zMb mask cs _ j (by rw [List.length_map]; exact hlen) hj) (fun j x hj hx => ((hu j x hj hx).kept r2).kept t2)
  have eU : upd (upd M2 i (some ⟨ver, .box (.es (e3 u)), 0⟩)) i (some ⟨ver, .box (.ds (zK0 mask cs ((e3 fun _ => undef).map D0.e))), 0⟩) = upd s.mem i (some ⟨ver, .box (.ds (zK0 mask cs ((e3 fun _ => undef).map D0.e))), 0⟩) := by
    funext id
    show (bif Nat.beq id i then _ else bif Nat.beq id i then _ else bif Nat.beq id i then _ else s.mem id) = bif Nat.beq id i then _ else s.mem id
    cases Nat.beq id i <;> rfl
  rw [eU] at q1 q2
  have hK := (r2.trans t2).trans q2
  refine ⟨μ', q1, by cases o.dst <;> simp [Act.put, hsz], by cases o.dst <;> exact hdf, ?_⟩
  have := zBF (dst := o.dst) hr hK (hv'.kept q2) hsz hd []
  intro t
  have h := this t
  have e : (s.app o.dst r []).tm t = zF1 s.tm o.dst r t := by
    unfold St.app zF1
    cases o.dst <;> rfl
  rw [e] at h
  exact h
theorem zWv (i : Nat) (mask : List Bool) {gs : List (Nat × List E)} {nt : Nat} {ops : Array Oper} {o : Oper} {rest : List Oper} {tm : Nat -> D} {m : Mem} {fo : Operand} {f : Nat} {args : Array Operand} {ts : Array TypeId} {ver : Nat} {c : Cs} {cs : List D0} {e2 e3 : (Nat -> Value) -> List E} {az : List D} {r : D} {s'' : St} (hop : o.op = .call ⟨.value fo, args, ts⟩) (hgd : zBT ops ⟨tm, m⟩ o = .free) (hfo : ((⟨tm, m⟩ : St).ev fo).strip = .one (.clo f []))
    (hfn : ∀ u, FnH P f gs (zDF (e2 u)) az r (zDF (e3 u))) (hm : m i = some ⟨ver, .box c, 0⟩) (hcs : c.d0 = cs) (h2 : ∀ u, (e2 u).map D0.e = zCE u 0 mask cs) (h3 : ∀ u, (e3 u).map D0.e = zCE u 0 mask (zK0 mask cs ((e3 fun _ => undef).map D0.e))) (hlen : cs.length = (e3 fun _ => undef).length)
    (has : ∀ u, ArgsH (upd m i (some ⟨ver, .box (.es (e2 u)), 0⟩)) (zBN (upd m i (some ⟨ver, .box (.es (e2 u)), 0⟩)) [(900000, i)]) (fun c => isS (zAl (zDF (e2 u)) c)) (args.toList.map fun x => ((⟨tm, m⟩ : St).ev x).strip) az []) (hn : zAR ⟨tm, m⟩ (fo :: args.toList) = []) (hd : zB0 nt o.dst = true) (hnt : X.nt = nt) (hgl : gs.map (fun x => tm (1000000 + x.1)) = gs.map fun x => .one (.eptr x.2)) (hr0 : ∀ ρ, r.rn ρ = r)
    (k : Lex P X ops rest ⟨zF1 tm o.dst r, upd m i (some ⟨ver, .box (.ds (zK0 mask cs ((e3 fun _ => undef).map D0.e))), 0⟩)⟩ s'') : Lex P X ops (o :: rest) ⟨tm, m⟩ s'' :=
  .cons (zJI (s := ⟨tm, m⟩) i mask hop hgd hfo hm hcs h2 h3 hlen has (fun p hp => by rw [hn] at hp; cases hp) (zB4 hgl) hfn hr0 (by rw [hnt]; exact hd)) k
def zCJ (n : Nat) (x : Nat -> Value) : List E := (List.range n).map fun j => .v (x j)
def mxS : List (Nat × Nat) -> (Nat -> Nat -> Value) -> List (Nat × Blk)
  | [], _ => []
  | y :: r, x => (y.1, ⟨0, .box (.es (zCJ y.2 (x y.1))), 0⟩) :: mxS r x
def FnX (P : Program) (sp : List (Nat × Nat)) (f : Nat) (gs : List (Nat × List E)) (ms : List (Nat × Blk)) (args : List D) (ch : List PanicEntry) : Prop := FnP P f gs ms args ch (mxS sp)
theorem zJN {gs : List (Nat × List E)} {ops : Array Oper} {s : St} {o : Oper} {fo : Operand} {f : Nat} {args : Array Operand} {ts : Array TypeId} (i : Nat) (mask : List Bool) {n ver : Nat} {c : Cs} {cs : List D0} {e2 : (Nat -> Value) -> List E} (hop : o.op = .call ⟨.value fo, args, ts⟩) (hgd : zBT ops s o = .free) (hfo : (s.ev fo).strip = .one (.clo f [])) {az : List D} {ch : List PanicEntry}
    (hm : s.mem i = some ⟨ver, .box c, 0⟩) (hcs : c.d0 = cs) (h2 : ∀ u, (e2 u).map D0.e = zCE u 0 mask cs) (hlen : cs.length = n)
    (has : ∀ u, ArgsH (upd s.mem i (some ⟨ver, .box (.es (e2 u)), 0⟩)) (zBN (upd s.mem i (some ⟨ver, .box (.es (e2 u)), 0⟩)) [(900000, i)]) (fun c => isS (zAl (zDF (e2 u)) c)) (args.toList.map fun x => (s.ev x).strip) az []) (hn : ∀ p ∈ zAR s (fo :: args.toList), p) (hgl : ∀ x ∈ gs, s.tm (1000000 + x.1) = .one (.eptr x.2))
    (hfn : ∀ u, FnX P [(900000, n)] f gs (zDF (e2 u)) az ch) : OpP P X ops o ch s fun x : Nat -> Nat -> Value => ⟨s.tm, upd s.mem i (some ⟨ver, .box (.es (zCJ n (x 900000))), 0⟩)⟩ := by
  intro N Q a w ⟨μ, hM, hsz, hdf, hr⟩ hQ
  refine ⟨zCa hgd a, ?_⟩
  obtain ⟨u, r1, r2, hu⟩ := RM.hide hM hm hcs h2
  obtain ⟨⟨fn, cd, k1, k2, k34⟩, hfn⟩ := hfn u
  have has := has u
  let M2 : Mem := upd s.mem i (some ⟨ver, .box (.es (e2 u)), 0⟩)
  have hM2 : M2 i = some ⟨ver, .box (.es (e2 u)), 0⟩ := zAn ..
  have hids : ∀ x : Nat -> Nat -> Value, zCT (zDF (e2 u)) (zDF (zCJ n (x 900000))) [(900000, i)] [] [] = true := fun x => zJO
  have hin : zHj M2 (zDF (e2 u)) (zBN M2 ([(900000, i)] ++ [])) ([(900000, i)] ++ []) := by
    refine ⟨?_, trivial⟩
    show M2 i = some (Blk.out _ (zA7 M2 i) ⟨0, .box (.es (e2 u)), 0⟩)
    rw [zSp, show zA7 M2 i = ver by unfold zA7; rw [hM2], Nat.zero_add, hM2]
  have hlen' : (e2 u).length = n := by
    have a1 := congrArg List.length (h2 u)
    rw [List.length_map, zD4] at a1
    omega
  have hsh : ∀ x : Nat -> Nat -> Value, zJe (zDF (e2 u)) (zDF (zCJ n (x 900000))) [(900000, i)] := fun x => by
    refine ⟨?_, trivial⟩
    show some (0, ((zCJ n (x 900000)).map D0.e).length) = some (0, ((e2 u).map D0.e).length)
    rw [List.length_map, List.length_map, hlen', zCJ, List.length_map, List.length_range]
  obtain ⟨k3, k4⟩ := Bool.or_eq_false_iff.1 k34
  have hf := zAA (zBn hr fo) (zAC hn fo (List.mem_cons_self ..))
  rw [hfo] at hf
  obtain ⟨vs0, hfv, hl0, hcp⟩ := hf
  rw [zCG k4] at hfv
  obtain rfl : vs0 = [] := List.eq_nil_of_length_eq_zero hl0.symm
  obtain ⟨hF, hCin, hRc, hInv⟩ := RM.lend r1 (hids fun _ _ => undef) hin
  let I : Nat -> Nat -> Prop := fun b o => (¬ X.own b -> X.I b o) /\ (X.own b -> ∀ id blk, M2 id = some blk -> μ id = some b -> o < blk.pub)
  let μc : Nat -> Option Nat := fun c => match lkN ([(900000, i)] ++ []) c with | some i => μ i | none => none
  have hrep := zCZ (vs := (args.map a.eval).toList) r1 hCin hInv has ⟨by simp, fun i d v hd hv => by
      simp only [List.getElem?_map, Array.toList_map, Option.map_eq_some_iff] at hd hv
      obtain ⟨x, hx, rfl⟩ := hd
      obtain ⟨y, hy, rfl⟩ := hv
      rw [hx] at hy
      cases hy
      exact (zAA (zBn hr x) (zAC hn x (List.mem_cons_of_mem _ (List.mem_of_getElem? hx)))).kept r2⟩ (fun u hu => nomatch hu)
  have hcall : (execOp a.eval o).run P w = .ok (.enter f (args.map a.eval)) w := by
    have hb : fn.body.isNone = false := by rw [k2]; rfl
    have hne : ¬ (fn.name = "runtime.NumGoroutine") := by simpa using k3
    simp [execOp, hop, resolve, hfv, Deferred.ofValue, invoke, callFunc, k1, hne, k2]
  unfold Oper.wp
  rw [hcall, Oper.upon_enter]
  refine (hfn w (args.map a.eval) I μc hRc (fun x hx => by
    have h1 := hr (1000000 + x.1)
    rw [hgl x hx, zBH] at h1
    exact zCx hCin (h1.kept r2)) hrep).mono ?_
  rintro e w' ⟨rfl, x, μf, hMf, hkeep⟩
  obtain ⟨μ', t1, t2, t3, t4⟩ := RM.back r1 (hids x) hin (hsh x) rfl rfl hMf hkeep
  have eM : zDo M2 (zDF (zCJ n (x 900000))) [(900000, i)] [] [] = upd M2 i (some ⟨ver, .box (.es (zCJ n (x 900000))), 0⟩) := zMc hM2 rfl
  have eU : upd M2 i (some ⟨ver, .box (.es (zCJ n (x 900000))), 0⟩) = upd s.mem i (some ⟨ver, .box (.es (zCJ n (x 900000))), 0⟩) := by
    funext id
    show (bif Nat.beq id i then _ else bif Nat.beq id i then _ else s.mem id) = bif Nat.beq id i then _ else s.mem id
    cases Nat.beq id i <;> rfl
  rw [show zDo (upd s.mem i (some ⟨ver, .box (.es (e2 u)), 0⟩)) (zDF (zCJ n (x 900000))) [(900000, i)] [] [] = _ from eM.trans eU] at t1 t2
  exact hQ x w' ⟨μ', t1, hsz, hdf, fun t => ((hr t).kept r2).kept t2⟩
theorem zU6 (i : Nat) (mask : List Bool) {gs : List (Nat × List E)} {n : Nat} {ops : Array Oper} {o : Oper} {rest : List Oper} {tm : Nat -> D} {m : Mem} {fo : Operand} {f : Nat} {args : Array Operand} {ts : Array TypeId} {ver : Nat} {c : Cs} {cs : List D0} {e2 : (Nat -> Value) -> List E} {az : List D} {ch : List PanicEntry} (hop : o.op = .call ⟨.value fo, args, ts⟩) (hgd : zBT ops ⟨tm, m⟩ o = .free) (hfo : ((⟨tm, m⟩ : St).ev fo).strip = .one (.clo f []))
    (hfn : ∀ u, FnX P [(900000, n)] f gs (zDF (e2 u)) az ch) (hm : m i = some ⟨ver, .box c, 0⟩) (hcs : c.d0 = cs) (h2 : ∀ u, (e2 u).map D0.e = zCE u 0 mask cs) (hlen : cs.length = n)
    (has : ∀ u, ArgsH (upd m i (some ⟨ver, .box (.es (e2 u)), 0⟩)) (zBN (upd m i (some ⟨ver, .box (.es (e2 u)), 0⟩)) [(900000, i)]) (fun c => isS (zAl (zDF (e2 u)) c)) (args.toList.map fun x => ((⟨tm, m⟩ : St).ev x).strip) az []) (hn : zAR ⟨tm, m⟩ (fo :: args.toList) = []) (hgl : gs.map (fun x => tm (1000000 + x.1)) = gs.map fun x => .one (.eptr x.2)) :
    LexP P X ops ch (o :: rest) ⟨tm, m⟩ fun x : Nat -> Nat -> Value => ⟨tm, upd m i (some ⟨ver, .box (.es (zCJ n (x 900000))), 0⟩)⟩ :=
  .pan (zJN (s := ⟨tm, m⟩) i mask hop hgd hfo hm hcs h2 hlen has (fun p hp => by rw [hn] at hp; cases hp) (zB4 hgl) hfn)
def zVg (sp : List (Nat × Nat)) (ch : List PanicEntry) (e : Exit) (s : St) : Prop := e = .panic ch /\ ∀ y ∈ sp, s.tm y.1 = .one (.ptr y.1 0 0) /\ ∃ c, s.mem y.1 = some ⟨0, .box c, 0⟩ /\ c.d0.length = y.2
theorem zNY {n : Nat} {u : Nat -> Value} {cs : List D0} (h : cs.length = n) : (zCJ n u).map D0.e = zCE u 0 (List.replicate n true) cs := by
  refine List.ext_getElem? fun j => ?_
  rw [zFe]
  unfold zCJ
  by_cases hj : j < n
  · rw [List.getElem?_eq_getElem (by simpa using hj), List.getElem?_eq_getElem (by omega)]
    simp [List.getD_eq_getElem?_getD, hj]
  · rw [List.getElem?_eq_none (by simp; omega), List.getElem?_eq_none (by omega)]
    rfl
theorem zIr : ∀ {sp : List (Nat × Nat)} {x : Nat -> Nat -> Value} {i : Nat} {b : Blk}, zAl (mxS sp x) i = some b -> ∃ n, (i, n) ∈ sp /\ b = ⟨0, .box (.es (zCJ n (x i))), 0⟩
  | [], _, _, _, h => nomatch h
  | y :: r, x, i, b, h => by
    rw [mxS, zAl] at h
    cases hi : Nat.beq i y.1 with
    | true =>
      rw [hi] at h
      cases h
      obtain rfl := Nat.eq_of_beq_eq_true hi
      exact ⟨y.2, List.mem_cons_self .., rfl⟩
    | false =>
      rw [hi] at h
      obtain ⟨n, h1, h2⟩ := zIr (sp := r) h
      exact ⟨n, List.mem_cons_of_mem _ h1, h2⟩
theorem zOp : ∀ {sp : List (Nat × Nat)} {x : Nat -> Nat -> Value} {t : Nat}, zDO (zFu (mxS sp x)) t = .any \/ ∃ b, zAl (mxS sp x) t = some b /\ zDO (zFu (mxS sp x)) t = .one (.ptr t 0 0)
  | [], _, _ => .inl rfl
  | y :: r, x, t => by
    rw [show zFu (mxS (y :: r) x) = (y.1, .one (.ptr y.1 0 0)) :: zFu (mxS r x) from rfl, zDO, mxS, zAl]
    cases hi : Nat.beq t y.1 with
    | true =>
      obtain rfl := Nat.eq_of_beq_eq_true hi
      exact .inr ⟨_, rfl, rfl⟩
    | false => exact zOp (sp := r) (x := x) (t := t)
theorem zUX {sp : List (Nat × Nat)} {ch : List PanicEntry} {ms : List (Nat × Blk)} {e : Exit} {s : St} (hp : ∀ x, zFu ms = zFu (mxS sp x)) (h9 : sp.all (fun y => Nat.ble 900000 y.1) = true) (h : zVg sp ch e s) : zVh ch ms (mxS sp) e s := by
  obtain ⟨he, h⟩ := h
  refine ⟨he, fun X a w ⟨μ, hM, hsz, hdf, hr⟩ => ?_⟩
  have hu : ∃ x : Nat -> Nat -> Value, ∀ y ∈ sp, zAP X ⟨zAl (mxS sp x), μ⟩ w y.1 ⟨0, .box (.es (zCJ y.2 (x y.1))), 0⟩ := by
    have key : ∀ i, ∃ u : Nat -> Value, ∀ n, (i, n) ∈ sp -> ∀ x : Nat -> Nat -> Value, zAP X ⟨zAl (mxS sp x), μ⟩ w i ⟨0, .box (.es (zCJ n u)), 0⟩ := fun i => by
      by_cases hi : ∃ n, (i, n) ∈ sp
      · obtain ⟨n, hn⟩ := hi
        obtain ⟨_, c, hm, hl⟩ := h _ hn
        obtain ⟨u, r1, r2, _⟩ := RM.hide (e2 := zCJ n) hM hm rfl (fun u => zNY hl)
        refine ⟨u, fun n' hn' x => ?_⟩
        have hn2 : n' = n := by
          obtain ⟨_, c', hm', hl'⟩ := h _ hn'
          have hm' : s.mem i = some ⟨0, .box c', 0⟩ := hm'
          have hm : s.mem i = some ⟨0, .box c, 0⟩ := hm
          rw [hm] at hm'
          cases hm'
          exact hl'.symm.trans hl
        subst hn2
        have h0 := r1.blk i ⟨0, .box (.es (zCJ n' u)), 0⟩ (show upd s.mem i (some ⟨0, .box (.es (zCJ n' u)), 0⟩) i = _ from zAn ..)
        have h1 := hM.blk
        unfold zAP at h0 ⊢
        show match μ i with | none => _ | some g => _
        cases hg : μ i with
        | none =>
          simp only [hg] at h0 ⊢
          exact h0
        | some g =>
          simp only [hg] at h0 ⊢
          obtain ⟨g0, g1, g2, g3, cur, e, lo, hi, g4, g5, g6, g7⟩ := h0
          refine ⟨g0, g1, fun id'' b'' m1 m2 => ?_, g3, cur, e, lo, hi, g4, g5, g6, fun k y hy => ?_⟩
          · obtain ⟨n2, hn2, _⟩ := zIr m1
            obtain ⟨_, c2, hm2, _⟩ := h _ hn2
            by_cases hii : id'' = i
            · exact hii
            · exact g2 id'' ⟨0, .box c2, 0⟩ ((zAB _ _ hii).trans hm2) m2
          · obtain ⟨v, v1, v2⟩ := g7 k y hy
            have hy : ((zCJ n' u).map D0.e)[k]? = some y := hy
            refine ⟨v, v1, ?_⟩
            unfold zCJ at hy
            simp only [List.map_map, List.getElem?_map, Option.map_eq_some_iff] at hy
            obtain ⟨j, _, rfl⟩ := hy
            have v2 : RepE _ (.v (u j)) v := v2
            have : v = u j := by cases v2; rfl
            subst this
            exact RepE.v _ (RepE.one v2)
      · exact ⟨fun _ => undef, fun n hn => absurd ⟨n, hn⟩ hi⟩
    exact ⟨fun i => (key i).choose, fun y hy => (key y.1).choose_spec y.2 hy _⟩
  obtain ⟨x, hx⟩ := hu
  refine ⟨x, μ, ⟨hM.bel, fun id blk hb => ?_⟩, hsz, hdf, fun t => ?_⟩
  · obtain ⟨n, hn, rfl⟩ := zIr hb
    exact hx _ hn
  · show zAy _ _ _ (zDO (zFu ms) t) _
    rw [hp x]
    rcases zOp (sp := sp) (x := x) (t := t) with h1 | ⟨b, h1, h2⟩
    · rw [h1]; trivial
    · rw [h2]
      obtain ⟨n, hn, rfl⟩ := zIr h1
      obtain ⟨ht, c, hm, hl⟩ := h _ hn
      have hrt : zAy ⟨s.mem, μ⟩ (CW X ⟨s.mem, μ⟩ w) w (bif Nat.ble 900000 t then s.tm t else .any) (zAL X.xg a.tmps t) := hr t
      cases h9b : Nat.ble 900000 t with
      | false =>
        have e9 : Nat.ble 900000 t = true := List.all_eq_true.1 h9 _ hn
        rw [e9] at h9b
        cases h9b
      | true =>
        rw [h9b, cond_true] at hrt
        have ht : s.tm t = .one (.ptr t 0 0) := ht
        rw [ht] at hrt
        obtain ⟨k0, blk, k1, k2, k3⟩ := hrt
        have k1 : s.mem t = some blk := k1
        have hm : s.mem t = some ⟨0, .box c, 0⟩ := hm
        rw [hm] at k1
        cases k1
        exact ⟨k0, _, h1, Nat.le_refl _, fun _ => k3 rfl⟩
def zEU (P : Program) (sp : List (Nat × Nat)) (f : Nat) (gs : List (Nat × List E)) (ms : List (Nat × Blk)) (args : List D) (q : Prop) (r : D) (ms' : List (Nat × Blk)) (ch : List PanicEntry) : Prop :=
  (q -> FnH P f gs ms args r ms') /\ (¬ q -> FnX P sp f gs ms args ch)
def zR7 (sp : List (Nat × Nat)) (T : Nat -> Option TI) (rs : List ResultVar) (q : Prop) (r : D) (ms ms' : List (Nat × Blk)) (ch : List PanicEntry) (e : Exit) (s : St) : Prop :=
  (q -> zRd T rs r ms ms' e s) /\ (¬ q -> zVg sp ch e s)
theorem zNu {sp : List (Nat × Nat)} {T : Nat -> Option TI} (hT : TOk P T) {f : Nat} {fn : Func} {c : Code} (hf : P.funcs[f]? = some fn) (hb : fn.body = some c) (hname : (fn.name == "runtime.NumGoroutine") = false) {gs : List (Nat × List E)} {args : List D} {q : Prop} {r : D} {ms ms' : List (Nat × Blk)} {ch : List PanicEntry} (hn : args.length <= fn.ntmps)
    (hin : zOH ms = true) (hp : ∀ x, zFu ms = zFu (mxS sp x)) (h9 : sp.all (fun y => Nat.ble 900000 y.1) = true) (hout : zE4 ms' ms = true) (houx : ∀ x, zE4 (mxS sp x) ms = true) (h : ∀ X : Ctx, X.nt = fn.ntmps -> Tr P X c (St.startH gs ms args) (zR7 sp T fn.results.toList q r ms ms' ch)) (hbig : Nat.ble fn.ntmps 900000 = true := by rfl) (hlt : Nat.ble 1048576 f = false := by rfl) : zEU P sp f gs ms args q r ms' ch :=
  ⟨fun hq => zGU hT hf hb hname hn hin hout (fun X hX => zEJ (h X hX) fun _ _ he => he.1 hq) hbig hlt,
   fun hq => zJ2 hf hb hname hn hin houx (fun X hX => zEJ (h X hX) fun _ _ he => zUX hp h9 (he.2 hq)) hbig hlt⟩
end
theorem zDM {P : Program} (i : Nat) (mask : List Bool) {T : Nat -> Option TI} {gs : List (Nat × List E)} {nt : Nat} {ops : Array Oper} {o : Oper} {rest : List Oper} {tm : Nat -> D} {m : Mem} {fo : Operand} {f : Nat} {args : Array Operand} {ts : Array TypeId} {ver : Nat} {c : Cs} {cs : List D0} {e2 e3 : (Nat -> Value) -> List E} {az : List D} {r : D} {fps : List FP} {s'' : St} (hop : o.op = .call ⟨.value fo, args, ts⟩) (hgd : zBT ops ⟨tm, m⟩ o = .free) (hfo : ((⟨tm, m⟩ : St).ev fo).strip = .one (.clo f []))
    (hfn : ∀ u, FnH P f gs (zDF (e2 u)) az r (zDF (e3 u))) (hm : m i = some ⟨ver, .box c, 0⟩) (hcs : c.d0 = cs) (h2 : ∀ u, (e2 u).map D0.e = zCE u 0 mask cs) (h3 : ∀ u, (e3 u).map D0.e = zCE u 0 mask (zK0 mask cs ((e3 fun _ => undef).map D0.e))) (hlen : cs.length = (e3 fun _ => undef).length)
    (has : ∀ u m', m' i = m i -> ArgsH (upd m' i (some ⟨ver, .box (.es (e2 u)), 0⟩)) (zBN (upd m' i (some ⟨ver, .box (.es (e2 u)), 0⟩)) [(900000, i)]) (fun c => isS (zAl (zDF (e2 u)) c)) (args.toList.map fun x => ((⟨tm, m⟩ : St).ev x).strip) az []) (hn : zAR ⟨tm, m⟩ (fo :: args.toList) = []) (hd : zB0 nt o.dst = true) {rd : List Nat} (hrd : (zLi (zKs ⟨tm, m⟩ o.op.operands.toList) fun rd => some rd) = some rd) (hgl : gs.map (fun x => tm (1000000 + x.1)) = gs.map fun x => .one (.eptr x.2)) (hr0 : ∀ ρ, r.rn ρ = r)
    (k : LexD P T nt ops rest ⟨zF1 tm o.dst r, upd m i (some ⟨ver, .box (.ds (zK0 mask cs ((e3 fun _ => undef).map D0.e))), 0⟩)⟩ fps s'') : LexD P T nt ops (o :: rest) ⟨tm, m⟩ ((zFk o.dst :: (i :: rd), [i]) :: fps) s'' := by
  rw [zCV] at hrd
  cases hrd
  have hfm : fo ∈ o.op.operands := by rw [hop]; simp [Op.operands, Call.operands]
  have hargs : ∀ x ∈ args.toList, x ∈ o.op.operands := fun x hx => by
    rw [hop]; simp only [Op.operands, Call.operands]; simp at hx ⊢; exact .inr hx
  have hput : ∀ (s : St) (d : D) (us : zBa), s.app o.dst d us = ⟨zF1 s.tm o.dst d, zBd s.mem us⟩ := fun s d us => by
    unfold St.app zF1
    cases o.dst <;> rfl
  refine .cons (d := r) (us := [(i, ⟨ver, .box (.ds (zK0 mask cs ((e3 fun _ => undef).map D0.e))), 0⟩)]) ⟨.gen fun s' hS hF X hX => ?_, fun x hx k hk => ?_, zAG (List.mem_cons_self ..), fun u hu => ?_, zCL hop, fun u hu => .inr ?_⟩ ?_
  · have hF' : m i = s'.mem i := hF i (by simp [inB])
    have hev : (args.toList.map fun x => (s'.ev x).strip) = args.toList.map fun x => ((⟨tm, m⟩ : St).ev x).strip := List.map_congr_left fun x hx => by rw [hS.ev x (hargs x hx)]
    rw [hput]
    exact zJI (P := P) (X := X) (ops := ops) (s := s') (o := o) i mask hop (by rw [<-zBL hS]; exact hgd) (by rw [<-hS.ev fo hfm]; exact hfo) (by rw [<-hF']; exact hm) hcs h2 h3 hlen (fun u => by rw [hev]; exact has u s'.mem hF'.symm) (by
      rw [<-zA0 (s := ⟨tm, m⟩) fun x hx => by
        rcases List.mem_cons.1 hx with rfl | hx
        · exact hS.ev _ hfm
        · exact hS.ev x (hargs x hx), hn]
      exact fun p hp => nomatch hp) (fun x hx => (hS.glob x.1).symm.trans (zB4 hgl x hx)) hfn hr0 (by rw [hX]; exact hd)
  · exact zAG (List.mem_cons_of_mem _ (List.mem_cons_of_mem _ (zCh x (by simpa using zBR hx) k hk)))
  · rw [List.mem_singleton.1 hu]
    exact zAG (List.mem_singleton.2 rfl)
  · rw [List.mem_singleton.1 hu]
    show zHn m i = _
    unfold zHn
    rw [hm]
    rfl
  · rw [hput]
    exact k
def zE2 (ops : Array Oper) : List Nat -> List Oper
  | [] => []
  | k :: r => match ops[k]? with
    | some o => o :: zE2 ops r
    | none => zE2 ops r
def zQb (md : Region.Mode) (ops : Array Oper) (fps : List FP) : List Nat -> Array Bool -> Bool
  | [], _ => true
  | k :: r, listed => (Region.ready md ops listed).contains k && zSQ md ops fps listed k && zQb md ops fps r (listed.setIfInBounds k true)
def zFZ : List Nat -> Array Bool -> Array Bool
  | [], listed => listed
  | k :: r, listed => zFZ r (listed.setIfInBounds k true)
def okF (fps : List FP) : List Nat -> List FP -> Bool
  | [], [] => true
  | k :: r, f :: fr => decide (fps.getD k ([], []) = f) && okF fps r fr
  | _, _ => false
def zUu : List Nat -> List FP -> Nat -> FP
  | k :: r, f :: fr, i => bif Nat.beq i k then f else zUu r fr i
  | _, _, _ => ([], [])
def zNU (n : Nat) (ks : List Nat) (fl : List FP) : List FP := (List.range n).map (zUu ks fl)
theorem zGs {P : Program} {T : Nat -> Option TI} {nt : Nat} {ops : Array Oper} {md : Region.Mode} {fps : List FP} {K : St -> Prop} : ∀ (ks : List Nat) (fuel : Nat) (listed : Array Bool) (s s1 : St) (fl : List FP), LexD P T nt ops (zE2 ops ks) s fl s1 -> okF fps ks fl = true -> zQb md ops fps ks listed = true ->
    zR8 P T nt md ops fps K fuel (zFZ ks listed) s1 -> zR8 P T nt md ops fps K (fuel + ks.length) listed s
  | [], fuel, listed, s, s1, fl, h, _, _, H => by
    cases h
    exact H
  | k :: r, fuel, listed, s, s1, fl, h, hf, hB, H => by
    rw [zQb, Bool.and_eq_true, Bool.and_eq_true] at hB
    obtain ⟨⟨hr, hfree⟩, hB⟩ := hB
    have hr : k ∈ Region.ready md ops listed := by simpa using hr
    obtain ⟨_, o, ho, _⟩ := mem_ready.1 hr
    rw [zE2, ho] at h
    cases h with
    | cons hS hk =>
      rename_i fp fl' d us
      rw [okF, Bool.and_eq_true] at hf
      have hfp := of_decide_eq_true hf.1
      exact zH5 ho (fuel + r.length) listed s (zFN _ [] fun b hb => nomatch (show false = true from hb)) (zFC ho hfree) hr (by rw [hfp]; exact hS) (zGs r fuel _ _ s1 fl' hk hf.2 hB H)
theorem zLF {P : Program} {T : Nat -> Option TI} {X : Ctx} {nt : Nat} {ops : Array Oper} (hT : TOk P T) (hnt : X.nt = nt) (hm : P.follows .mixedOrders = true) {id : Nat} {s s1 sf1 sf2 : St} {fl0 fl1 fl2 : List FP} {Q : Exit -> St -> Prop} (ks0 : List Nat) (a b : Nat) (ks1 : List Nat)
    (h0 : LexD P T nt ops (zE2 ops ks0) s fl0 s1) (h1 : LexD P T nt ops (zE2 ops (a :: b :: ks1)) s1 fl1 sf1) (h2 : LexD P T nt ops (zE2 ops (b :: a :: ks1)) s1 fl2 sf2)
    (hf : (okF (zNU ops.size (ks0 ++ a :: b :: ks1) (fl0 ++ fl1)) ks0 fl0 && (okF (zNU ops.size (ks0 ++ a :: b :: ks1) (fl0 ++ fl1)) (a :: b :: ks1) fl1 && okF (zNU ops.size (ks0 ++ a :: b :: ks1) (fl0 ++ fl1)) (b :: a :: ks1) fl2)) = true)
    (hB : (zQb .any ops (zNU ops.size (ks0 ++ a :: b :: ks1) (fl0 ++ fl1)) ks0 (Array.replicate ops.size false) && (!(Region.ready .any ops (zFZ ks0 (Array.replicate ops.size false))).isEmpty && ((Region.ready .any ops (zFZ ks0 (Array.replicate ops.size false))).all (fun i => Nat.beq i a || Nat.beq i b) &&
      (zQb .any ops (zNU ops.size (ks0 ++ a :: b :: ks1) (fl0 ++ fl1)) (b :: ks1) ((zFZ ks0 (Array.replicate ops.size false)).setIfInBounds a true) && (zQb .any ops (zNU ops.size (ks0 ++ a :: b :: ks1) (fl0 ++ fl1)) (a :: ks1) ((zFZ ks0 (Array.replicate ops.size false)).setIfInBounds b true) &&
      ((Region.ready .any ops (zFZ (a :: b :: ks1) (zFZ ks0 (Array.replicate ops.size false)))).isEmpty && ((Region.ready .any ops (zFZ (b :: a :: ks1) (zFZ ks0 (Array.replicate ops.size false)))).isEmpty && Nat.beq ops.size (ks1.length + 1 + 1 + ks0.length)))))))) = true)
    (hQ1 : Q .normal sf1) (hQ2 : Q .normal sf2) : Tr P X (.region id ops true) s Q := by
  intro ac w ⟨μ, hM, hsz, hdf, hr⟩
  refine wp_region_any hm ?_
  obtain ⟨g1, g2⟩ := hM.same (w' := { w with drawn := w.drawn + 1 }) rfl rfl rfl rfl
  have hR : R X s ac { w with drawn := w.drawn + 1 } := ⟨μ, g1, hsz, hdf, fun t => (hr t).kept g2⟩
  generalize hfp : zNU ops.size (ks0 ++ a :: b :: ks1) (fl0 ++ fl1) = fps at hf hB
  generalize hL0 : Array.replicate ops.size false = L0 at hB ⊢
  simp only [Bool.and_eq_true] at hf hB
  obtain ⟨f0, f1, f2⟩ := hf
  obtain ⟨b0, b1, b2, b3, b4, b5, b6, b7⟩ := hB
  have hsz' := Nat.eq_of_beq_eq_true b7
  have key : zR8 P T nt .any ops fps (Q .normal) ops.size L0 s := by
    rw [hsz']
    refine zGs ks0 _ L0 s s1 fl0 h0 f0 b0 ⟨fun e => absurd b1 (by rw [e]; decide), fun i hi => ?_⟩
    have hab := List.all_eq_true.1 b2 i hi
    obtain ⟨_, o, ho, _⟩ := mem_ready.1 hi
    rw [Bool.or_eq_true] at hab
    rcases hab with hab | hab
    · obtain rfl := Nat.eq_of_beq_eq_true hab
      rw [zE2, ho] at h1
      cases h1 with
      | cons hS hk =>
        rename_i fp fl' d us
        rw [okF, Bool.and_eq_true] at f1
        have e := of_decide_eq_true f1.1
        refine ⟨o, d, us, ho, by rw [e]; exact hS, ?_⟩
        have := zGs (K := Q .normal) (b :: ks1) 0 ((zFZ ks0 L0).setIfInBounds i true) _ sf1 fl' hk f1.2 b3 ⟨by rw [zFZ] at b5; simpa using b5, hQ1⟩
        simpa [Nat.add_comm] using this
    · obtain rfl := Nat.eq_of_beq_eq_true hab
      rw [zE2, ho] at h2
      cases h2 with
      | cons hS hk =>
        rename_i fp fl' d us
        rw [okF, Bool.and_eq_true] at f2
        have e := of_decide_eq_true f2.1
        refine ⟨o, d, us, ho, by rw [e]; exact hS, ?_⟩
        have := zGs (K := Q .normal) (a :: ks1) 0 ((zFZ ks0 L0).setIfInBounds i true) _ sf2 fl' hk f2.2 b4 ⟨by rw [zFZ] at b6; simpa using b6, hQ2⟩
        simpa [Nat.add_comm] using this
  exact zEa hT hnt (fun s a w hK hR => ⟨s, hK, hR⟩) _ _ _ ac _ hR key
structure SdP (P : Program) (nt : Nat) (ops : Array Oper) (fp : FP) (o : Oper) (ch : List PanicEntry) (K : St -> Prop) (s : St) : Prop where
  eff : ∀ s', Same ops o s s' -> (∀ k, inB fp.1 k = true -> s.mem k = s'.mem k) -> (∀ t, nt <= t -> s.tm t = s'.tm t) -> ∀ X : Ctx, X.nt = nt -> ∃ (σ : Type) (s1 : σ -> St), OpP P X ops o ch s' s1 /\ ∀ x, K (s1 x)
  rd : ∀ x ∈ rdO o.op, ∀ k ∈ zCO (s.ev x), inB fp.1 k = true
  rdD : inB fp.1 (zFk o.dst) = true
  rv : ∀ x ∈ rdV o.op, ∀ k ∈ zCO (s.ev x), inB fp.1 (k + 2000000) = true
section
variable {P : Program} {T : Nat -> Option TI} {X : Ctx} {nt : Nat} {ops : Array Oper} {ch : List PanicEntry} {K : St -> Prop}
theorem SdP.swap {fi fj : FP} {oi oj : Oper} (hin : zED ops fi fj oi oj = true) {s : St} {di : D} {usi : zBa} (hd : zB0 nt oi.dst = true) (hi : Sd P T nt ops fi oi s di usi) (hj : SdP P nt ops fj oj ch K (s.app oi.dst di usi)) : SdP P nt ops fj oj ch K s := by
  simp only [zED, Bool.and_eq_true] at hin
  obtain ⟨⟨⟨⟨⟨hap, h12⟩, h22⟩, h21⟩, hsi⟩, hsj⟩ := hin
  obtain ⟨a1, a2, a3⟩ := Oper.apart_spec hap
  have hev := zIC (s := s) (di := di) (usi := usi) hsi a1
  have hrd : ∀ x ∈ rdO oj.op, ∀ k ∈ zCO (s.ev x), inB fj.1 k = true := fun x hx k hk => hj.rd x hx k (by rw [hev x (zBR hx)]; exact hk)
  have hrv : ∀ x ∈ rdV oj.op, ∀ k ∈ zCO (s.ev x), inB fj.1 (k + 2000000) = true := fun x hx k hk => hj.rv x hx k (by rw [hev x (zFt hx)]; exact hk)
  have sj : Same ops oj s (s.app oi.dst di usi) := zKN hsi a1 h12 hi.wr hi.wv hrd hrv hj.rdD
  have hmj : ∀ k, inB fj.1 k = true -> (s.app oi.dst di usi).mem k = s.mem k := fun k hk => zAM usi s.mem k fun u hu e => by
    have := zCy h12 u.1 (hi.wr u hu)
    rw [e, hk] at this
    cases this
  have htm : ∀ t, nt <= t -> (s.app oi.dst di usi).tm t = s.tm t := fun t ht => zMI fun k hk e => by
    subst e
    rw [hk] at hd
    exact absurd (Nat.blt_eq.mp hd) (Nat.not_lt.2 ht)
  refine ⟨fun s' hS hF hT X hX => hj.eff s' ⟨fun t ht => (sj.tm t ht).symm.trans (hS.tm t ht), fun x hx i hi => ?_, fun x hx i hi => ?_, sj.dst.symm.trans hS.dst, fun g => (sj.glob g).symm.trans (hS.glob g)⟩ (fun k hk => (hmj k hk).trans (hF k hk)) (fun t ht => (htm t ht).trans (hT t ht)) X hX, hrd, hj.rdD, hrv⟩
  · rw [hev x (zBR hx)] at hi
    exact (sj.mem x hx i hi).symm.trans (hS.mem x hx i hi)
  · rw [hev x (zFt hx)] at hi
    exact (sj.ver x hx i hi).symm.trans (hS.ver x hx i hi)
def zTh (P : Program) (T : Nat -> Option TI) (nt : Nat) (md : Region.Mode) (ops : Array Oper) (fps : List FP) (kp : Nat) (ch : List PanicEntry) (K : St -> Prop) : Nat -> Array Bool -> St -> Prop
  | 0, _, _ => False
  | fuel + 1, listed, s => Region.ready md ops listed ≠ [] /\ ∀ i ∈ Region.ready md ops listed,
    (i = kp /\ ∃ o, ops[i]? = some o /\ SdP P nt ops (fps.getD i ([], [])) o ch K s) ∨
    (∃ o d us, ops[i]? = some o /\ Sd P T nt ops (fps.getD i ([], [])) o s d us /\ zTh P T nt md ops fps kp ch K fuel (listed.setIfInBounds i true) (s.app o.dst d us))
theorem zNM {md : Region.Mode} {fps : List FP} {kp i : Nat} {oi : Oper} (hi : ops[i]? = some oi) (hdi : zB0 nt oi.dst = true) {B : List Nat} :
    ∀ (fuel : Nat) (listed : Array Bool) (s : St) {d : D} {us : zBa},
      (∀ b, inB B b = true -> zI9 md ops listed i B b) ->
      (∀ j oj, ops[j]? = some oj -> j ≠ i -> listed.getD j true = false -> inB B j = false -> zED ops (fps.getD i ([], [])) (fps.getD j ([], [])) oi oj = true) ->
      i ∈ Region.ready md ops listed -> Sd P T nt ops (fps.getD i ([], [])) oi s d us ->
      zTh P T nt md ops fps kp ch K fuel (listed.setIfInBounds i true) (s.app oi.dst d us) -> zTh P T nt md ops fps kp ch K (fuel + 1) listed s := by
  intro fuel
  induction fuel with
  | zero =>
    intro listed s d us _ _ hr hS H
    exact H.elim
  | succ fuel ih =>
    intro listed s d us hw hfree hr hS H
    refine ⟨fun h => (by rw [h] at hr; cases hr), fun j hj => ?_⟩
    by_cases hji : j = i
    · subst hji; exact .inr ⟨oi, d, us, hi, hS, H⟩
    · obtain ⟨hjun, oj, hoj, hall⟩ := mem_ready.1 hj
      have hoff : ∀ k, listed.getD k true = false -> ¬ listed[k]? = some true := fun k h0 h1 => by
        rw [Array.getD_eq_getD_getElem?, h1] at h0
        cases h0
      have hnot : inB B j = false := by
        cases hB : inB B j with
        | false => rfl
        | true =>
          obtain ⟨_, ob, hob, e, he, hb, h2⟩ := hw j hB
          rw [hoj] at hob
          cases hob
          have h1 := hall e he hb
          rcases h2 with h2 | h2
          · have h0 := (mem_ready.1 hr).1
            rw [h2] at h1
            exact absurd h1 (by
              rcases Nat.lt_or_ge i listed.size with h' | h'
              · simp [h'] at h0 ⊢; exact h0
              · simp [Array.getElem?_eq_none h'])
          · have h0 := (hw _ h2).1
            exact absurd h1 (by
              rcases Nat.lt_or_ge e.on listed.size with h' | h'
              · simp [h'] at h0 ⊢; exact h0
              · simp [Array.getElem?_eq_none h'])
      have hind := hfree j oj hoj hji hjun hnot
      rcases H.2 j (ready_mono hj hji) with ⟨hk, oj', hoj', hP⟩ | ⟨oj', dj, usj, hoj', hSj, HH⟩
      · rw [hoj] at hoj'
        cases hoj'
        exact .inl ⟨hk, oj, hoj, hP.swap hind hdi hS⟩
      rw [hoj] at hoj'
      cases hoj'
      obtain ⟨k1, k2, k3⟩ := Sd.swap hind hS hSj
      have hw' : ∀ b, inB B b = true -> zI9 md ops (listed.setIfInBounds j true) i B b := fun b hb => by
        obtain ⟨w1, w2⟩ := hw b hb
        refine ⟨?_, w2⟩
        by_cases hjb : j = b
        · subst hjb; rw [hnot] at hb; cases hb
        · rw [getD_set_ne true hjb]; exact w1
      have hfree' : ∀ k ok, ops[k]? = some ok -> k ≠ i -> (listed.setIfInBounds j true).getD k true = false ->
          inB B k = false -> zED ops (fps.getD i ([], [])) (fps.getD k ([], [])) oi ok = true := fun k ok hk hki hun hno => by
        refine hfree k ok hk hki ?_ hno
        by_cases hjk : j = k
        · subst hjk; exact hjun
        · rw [getD_set_ne true hjk] at hun; exact hun
      refine .inr ⟨oj, dj, usj, hoj, k1, ih (listed.setIfInBounds j true) _ hw' hfree' (ready_mono hr (Ne.symm hji)) k2 ?_⟩
      rw [Array.setIfInBounds_comm _ _ hji, <-k3]
      exact HH
theorem zFq (hT : TOk P T) (hnt : X.nt = nt) {md : Region.Mode} {fps : List FP} {kp : Nat} {Q : Exit -> Act -> World -> Prop} (hQ : ∀ s a w, K s -> R X s a w -> Q (.panic ch) a w) : ∀ (fuel : Nat) (listed : Array Bool) (s : St) (a : Act) (w : World), R X s a w ->
    zTh P T nt md ops fps kp ch K fuel listed s -> wpAny P md ops Q fuel listed a w
  | 0, _, _, _, _, _, h => h.elim
  | fuel + 1, listed, s, a, w, hR, h => ⟨fun h0 => absurd h0 h.1, fun i hi => by
    rcases h.2 i hi with ⟨_, o, ho, hP⟩ | ⟨o, d, us, ho, hS, hA⟩
    · obtain ⟨σ, s1, hop, hK⟩ := hP.eff s ⟨fun _ _ => rfl, fun _ _ _ _ => rfl, fun _ _ _ _ => rfl, rfl, fun _ => rfl⟩ (fun _ _ => rfl) (fun _ _ => rfl) X hnt
      unfold wpOp
      rw [ho]
      obtain ⟨q1, q2⟩ := hop (wpAny P md ops Q fuel (listed.setIfInBounds i true)) Q a w hR (fun x w' hr => hQ (s1 x) a w' (hK x) hr)
      simp only
      rw [if_pos q1]
      exact .inl q2
    · have := hS.eff.sound hT hnt Q a w hR
      unfold wpOp
      rw [ho]
      simp only
      split
      · rename_i hw
        rw [if_pos hw] at this
        exact .inl (Oper.wp_mono (fun a w hr => zFq hT hnt hQ fuel _ _ a w hr hA) this)
      · rename_i hw
        rw [if_neg hw] at this
        exact zFq hT hnt hQ fuel _ _ _ _ this hA⟩
def zMA (nt : Nat) (ops : Array Oper) : List Nat -> Bool
  | [] => true
  | k :: r => (match ops[k]? with | some o => zB0 nt o.dst | none => true) && zMA nt ops r
theorem zMM {md : Region.Mode} {fps : List FP} {kp : Nat} : ∀ (ks : List Nat) (fuel : Nat) (listed : Array Bool) (s s1 : St) (fl : List FP), LexD P T nt ops (zE2 ops ks) s fl s1 -> okF fps ks fl = true -> zQb md ops fps ks listed = true -> zMA nt ops ks = true ->
    zTh P T nt md ops fps kp ch K fuel (zFZ ks listed) s1 -> zTh P T nt md ops fps kp ch K (fuel + ks.length) listed s
  | [], fuel, listed, s, s1, fl, h, _, _, _, H => by
    cases h
    exact H
  | k :: r, fuel, listed, s, s1, fl, h, hf, hB, hd, H => by
    rw [zQb, Bool.and_eq_true, Bool.and_eq_true] at hB
    obtain ⟨⟨hr, hfree⟩, hB⟩ := hB
    have hr : k ∈ Region.ready md ops listed := by simpa using hr
    obtain ⟨_, o, ho, _⟩ := mem_ready.1 hr
    rw [zE2, ho] at h
    rw [zMA, ho, Bool.and_eq_true] at hd
    cases h with
    | cons hS hk =>
      rename_i fp fl' d us
      rw [okF, Bool.and_eq_true] at hf
      have hfp := of_decide_eq_true hf.1
      exact zNM ho hd.1 (fuel + r.length) listed s (zFN _ [] fun b hb => nomatch (show false = true from hb)) (zFC ho hfree) hr (by rw [hfp]; exact hS) (zMM r fuel _ _ s1 fl' hk hf.2 hB hd.2 H)
end
theorem zC6 {P : Program} {T : Nat -> Option TI} {X : Ctx} {nt : Nat} {ops : Array Oper} {ch : List PanicEntry} (hT : TOk P T) (hnt : X.nt = nt) (hm : P.follows .mixedOrders = true) {id : Nat} {s s1 s2 : St} {fl0 fl1 : List FP} {fpk : FP} {ok : Oper} {Q : Exit -> St -> Prop} (ks0 : List Nat) (a kp : Nat)
    (h0 : LexD P T nt ops (zE2 ops ks0) s fl0 s1) (h1 : LexD P T nt ops (zE2 ops [a]) s1 fl1 s2) (hok : ops[kp]? = some ok)
    (hp1 : SdP P nt ops fpk ok ch (Q (.panic ch)) s1) (hp2 : SdP P nt ops fpk ok ch (Q (.panic ch)) s2)
    (hf : (okF (zNU ops.size (ks0 ++ [a, kp]) (fl0 ++ (fl1 ++ [fpk]))) ks0 fl0 && (okF (zNU ops.size (ks0 ++ [a, kp]) (fl0 ++ (fl1 ++ [fpk]))) [a] fl1 && okF (zNU ops.size (ks0 ++ [a, kp]) (fl0 ++ (fl1 ++ [fpk]))) [kp] [fpk])) = true)
    (hB : (zQb .any ops (zNU ops.size (ks0 ++ [a, kp]) (fl0 ++ (fl1 ++ [fpk]))) ks0 (Array.replicate ops.size false) && (zMA nt ops ks0 && (!(Region.ready .any ops (zFZ ks0 (Array.replicate ops.size false))).isEmpty && ((Region.ready .any ops (zFZ ks0 (Array.replicate ops.size false))).all (fun i => Nat.beq i a || Nat.beq i kp) &&
      (!(Region.ready .any ops (zFZ [a] (zFZ ks0 (Array.replicate ops.size false)))).isEmpty && ((Region.ready .any ops (zFZ [a] (zFZ ks0 (Array.replicate ops.size false)))).all (fun i => Nat.beq i kp) && Nat.ble (2 + ks0.length) ops.size)))))) = true) : Tr P X (.region id ops true) s Q := by
  intro ac w ⟨μ, hM, hsz, hdf, hr⟩
  refine wp_region_any hm ?_
  obtain ⟨g1, g2⟩ := hM.same (w' := { w with drawn := w.drawn + 1 }) rfl rfl rfl rfl
  have hR : R X s ac { w with drawn := w.drawn + 1 } := ⟨μ, g1, hsz, hdf, fun t => (hr t).kept g2⟩
  generalize hfp : zNU ops.size (ks0 ++ [a, kp]) (fl0 ++ (fl1 ++ [fpk])) = fps at hf hB
  generalize hL0 : Array.replicate ops.size false = L0 at hB ⊢
  simp only [Bool.and_eq_true] at hf hB
  obtain ⟨f0, f1, f2⟩ := hf
  obtain ⟨b0, b1, b2, b3, b4, b5, b6⟩ := hB
  have hle := Nat.le_of_ble_eq_true b6
  have fk : fps.getD kp ([], []) = fpk := by
    rw [okF, Bool.and_eq_true] at f2
    exact of_decide_eq_true f2.1
  have key : zTh P T nt .any ops fps kp ch (Q (.panic ch)) ops.size L0 s := by
    obtain ⟨n, hn⟩ : ∃ n, ops.size = (n + 1 + 1) + ks0.length := ⟨ops.size - 2 - ks0.length, by omega⟩
    rw [hn]
    refine zMM ks0 _ L0 s s1 fl0 h0 f0 b0 b1 ⟨fun e => absurd b2 (by rw [e]; decide), fun i hi => ?_⟩
    have hab := List.all_eq_true.1 b3 i hi
    rw [Bool.or_eq_true] at hab
    rcases hab with hab | hab
    · obtain rfl := Nat.eq_of_beq_eq_true hab
      obtain ⟨_, o, ho, _⟩ := mem_ready.1 hi
      rw [zE2, ho] at h1
      cases h1 with
      | cons hS hk =>
        rename_i fp fl' d us
        cases hk
        rw [okF, Bool.and_eq_true] at f1
        have e := of_decide_eq_true f1.1
        refine .inr ⟨o, d, us, ho, by rw [e]; exact hS, fun e => absurd b4 (by rw [zFZ, zFZ, e]; decide), fun j hj => ?_⟩
        have hj2 := List.all_eq_true.1 b5 j (by rw [zFZ, zFZ]; exact hj)
        obtain rfl := Nat.eq_of_beq_eq_true hj2
        exact .inl ⟨rfl, ok, hok, by rw [fk]; exact hp2⟩
    · obtain rfl := Nat.eq_of_beq_eq_true hab
      exact .inl ⟨rfl, ok, hok, by rw [fk]; exact hp1⟩
  exact zFq hT hnt (fun s a w hK hR => ⟨s, hK, hR⟩) _ _ _ ac _ hR key
theorem zA8 {P : Program} {nt : Nat} {ops : Array Oper} {ch : List PanicEntry} {K : St -> Prop} (i : Nat) (mask : List Bool) {gs : List (Nat × List E)} {n : Nat} {o : Oper} {tm : Nat -> D} {m : Mem} {fo : Operand} {f : Nat} {args : Array Operand} {ts : Array TypeId} {ver : Nat} {c : Cs} {cs : List D0} {e2 : (Nat -> Value) -> List E} {az : List D} (ext : List Nat) (hop : o.op = .call ⟨.value fo, args, ts⟩) (hgd : zBT ops ⟨tm, m⟩ o = .free) (hfo : ((⟨tm, m⟩ : St).ev fo).strip = .one (.clo f []))
    (hfn : ∀ u, FnX P [(900000, n)] f gs (zDF (e2 u)) az ch) (hm : m i = some ⟨ver, .box c, 0⟩) (hcs : c.d0 = cs) (h2 : ∀ u, (e2 u).map D0.e = zCE u 0 mask cs) (hlen : cs.length = n)
    (has : ∀ u m', m' i = m i -> ArgsH (upd m' i (some ⟨ver, .box (.es (e2 u)), 0⟩)) (zBN (upd m' i (some ⟨ver, .box (.es (e2 u)), 0⟩)) [(900000, i)]) (fun c => isS (zAl (zDF (e2 u)) c)) (args.toList.map fun x => ((⟨tm, m⟩ : St).ev x).strip) az []) (hn : zAR ⟨tm, m⟩ (fo :: args.toList) = []) {rd : List Nat} (hrd : (zLi (zKs ⟨tm, m⟩ o.op.operands.toList) fun rd => some rd) = some rd) (hgl : gs.map (fun x => tm (1000000 + x.1)) = gs.map fun x => .one (.eptr x.2))
    (hK : ∀ (s' : St), (∀ t, nt <= t -> tm t = s'.tm t) -> (∀ k, inB (i :: ext) k = true -> m k = s'.mem k) -> ∀ x : Nat -> Nat -> Value, K ⟨s'.tm, upd s'.mem i (some ⟨ver, .box (.es (zCJ n (x 900000))), 0⟩)⟩) :
    SdP P nt ops (zFk o.dst :: ((i :: ext) ++ rd), [i]) o ch K ⟨tm, m⟩ := by
  rw [zCV] at hrd
  cases hrd
  have hfm : fo ∈ o.op.operands := by rw [hop]; simp [Op.operands, Call.operands]
  have hargs : ∀ x ∈ args.toList, x ∈ o.op.operands := fun x hx => by
    rw [hop]; simp only [Op.operands, Call.operands]; simp at hx ⊢; exact .inr hx
  have inBapp : ∀ (a b : List Nat) (k : Nat), inB a k = true -> inB (a ++ b) k = true := fun a b k => by
    induction a with
    | nil => intro h; cases h
    | cons x a ih =>
      intro h
      simp only [List.cons_append, inB, Bool.or_eq_true] at h ⊢
      exact h.imp id ih
  refine ⟨fun s' hS hF hT X hX => ⟨Nat -> Nat -> Value, _, zJN (P := P) (X := X) (ops := ops) (s := s') (o := o) i mask hop (by rw [<-zBL hS]; exact hgd) (by rw [<-hS.ev fo hfm]; exact hfo) (by rw [<-hF i (by simp [inB])]; exact hm) hcs h2 hlen (fun u => ?_) (by
      rw [<-zA0 (s := ⟨tm, m⟩) fun x hx => by
        rcases List.mem_cons.1 hx with rfl | hx
        · exact hS.ev _ hfm
        · exact hS.ev x (hargs x hx), hn]
      exact fun p hp => nomatch hp) (fun x hx => (hS.glob x.1).symm.trans (zB4 hgl x hx)) hfn, hK s' hT fun k hk => hF k (by
      simp only [inB, Bool.or_eq_true]
      exact .inr (inBapp _ _ k hk))⟩, fun x hx k hk => ?_, zAG (List.mem_cons_self ..), zCL hop⟩
  · have hev : (args.toList.map fun x => (s'.ev x).strip) = args.toList.map fun x => ((⟨tm, m⟩ : St).ev x).strip := List.map_congr_left fun x hx => by rw [hS.ev x (hargs x hx)]
    rw [hev]
    exact has u s'.mem (hF i (by simp [inB])).symm
  · exact zAG (List.mem_cons_of_mem _ (List.mem_append_right _ (zCh x (by simpa using zBR hx) k hk)))
end Go.Proofs.YtcdifgacoleckaaGreatDoor.Ab
namespace Go.Proofs.YtcdifgacoleckaaGreatDoor
open Go Go.RowKit Go.Proofs.YtcdifgacoleckaaGreatDoor.Ab
abbrev kr : List (Nat × Nat) := [(900001, 900001), (900002, 900002), (900003, 900003), (900004, 900004), (900005, 900005)]
abbrev l9 : List (Nat × Nat) := [(900000, 900000)]
section
variable {X : Ctx} {nt id : Nat} {ops : Array Oper} {gs : List (Nat × List E)} {o : Oper} {rest : List Oper} {tm tm1 tm2 : Nat -> D} {m m1 m2 : Mem} {fo : Operand} {f t : Nat} {caps : List (Nat × Nat × Nat)} {args : Array Operand} {ts : Array TypeId} {ars : List D} {us : zBa} {r : D} {ps ps2 : List Prop} {ms ms' : List (Nat × Blk)} {ch : List PanicEntry} {Q : Exit -> St -> Prop}
theorem zV {c0 : Code} {Q0 : Exit -> St -> Prop} [z : Zf Tryz.prog X c0 ⟨tm, m⟩ Q0 (.region id ops false) Q] (hfn : FnG Tryz.prog f gs ars r) (k : Q .normal ⟨tm2, m2⟩) (hnt : X.nt = nt := by assumption) (h1 : zGb tab nt ops ops.toList [] tm m = some ⟨ps, tm1, m1, o :: rest⟩ := by exact rfl) (hp : zBh ps := by exact zzt) (hop : o.op = .call ⟨.value fo, args, ts⟩ := by exact rfl) (hgd : zBT ops ⟨tm1, m1⟩ o = .free := by exact rfl) (hfo : ((⟨tm1, m1⟩ : St).ev fo).strip = .one (.clo f []) := by exact rfl)
  (has : zBi m1 (args.toList.map fun x => ((⟨tm1, m1⟩ : St).ev x).strip) = some (ars, us) := by exact rfl) (hn : zAR ⟨tm1, m1⟩ (fo :: args.toList) = [] := by exact rfl) (hd : o.dst = some t := by exact rfl) (hlt : Nat.blt t nt = true := by exact rfl) (hgl : gs.map (fun x => tm1 (1000000 + x.1)) = gs.map fun x => .one (.eptr x.2) := by exact rfl) (h2 : zGb tab nt ops rest [] (upd tm1 t r) (zDH m1 us) = some ⟨ps2, tm2, m2, []⟩ := by exact rfl) (hp2 : zBh ps2 := by exact zzt) : Tr Tryz.prog X c0 ⟨tm, m⟩ Q0 :=
 z.go <| zAa (zzx hnt h1 hp (callV hop hgd hfo has hn hd hlt hnt hgl hfn (zzx hnt h2 hp2 (Lex.nil _)))) k
theorem zC {c0 : Code} {Q0 : Exit -> St -> Prop} [z : Zf Tryz.prog X c0 ⟨tm, m⟩ Q0 (.region id ops false) Q] (hfn : FnD Tryz.prog f ars r) (k : Q .normal ⟨tm2, m2⟩) (hnt : X.nt = nt := by assumption) (h1 : zGb tab nt ops ops.toList [] tm m = some ⟨ps, tm1, m1, o :: rest⟩ := by exact rfl) (hp : zBh ps := by exact zzt) (hop : o.op = .call ⟨.value fo, args, ts⟩ := by exact rfl) (hgd : zBT ops ⟨tm1, m1⟩ o = .free := by exact rfl) (hfo : ((⟨tm1, m1⟩ : St).ev fo).strip = .one (.clo f []) := by exact rfl)
  (has : zBi m1 (args.toList.map fun x => ((⟨tm1, m1⟩ : St).ev x).strip) = some (ars, []) := by exact rfl) (hn : zAR ⟨tm1, m1⟩ (fo :: args.toList) = [] := by exact rfl) (hd : o.dst = some t := by exact rfl) (hlt : Nat.blt t nt = true := by exact rfl) (h2 : zGb tab nt ops rest [] (upd tm1 t r) m1 = some ⟨ps2, tm2, m2, []⟩ := by exact rfl) (hp2 : zBh ps2 := by exact zzt) : Tr Tryz.prog X c0 ⟨tm, m⟩ Q0 :=
 z.go <| zAa (zzx hnt h1 hp (call hop hgd hfo has hn hd hlt hnt hfn (zzx hnt h2 hp2 (Lex.nil _)))) k
theorem zH {c0 : Code} {Q0 : Exit -> St -> Prop} [z : Zf Tryz.prog X c0 ⟨tm, m⟩ Q0 (.region id ops false) Q] (L K A : List (Nat × Nat)) (hfn : FnH Tryz.prog f gs ms ars r ms') (k : Q .normal ⟨tm2, m2⟩) (hnt : X.nt = nt := by assumption) (h1 : zGb tab nt ops ops.toList [] tm m = some ⟨ps, tm1, m1, o :: rest⟩ := by exact rfl) (hp : zBh ps := by exact zzt) (hop : o.op = .call ⟨.value fo, args, ts⟩ := by exact rfl) (hgd : zBT ops ⟨tm1, m1⟩ o = .free := by exact rfl) (hfo : ((⟨tm1, m1⟩ : St).ev fo).strip = .one (.clo f caps) := by exact rfl) (hcap : zC4 m1 caps = true := by exact rfl)
  (has : ArgsH m1 (zBN m1 (L ++ K)) (fun c => isS (zAl ms c)) ((args.toList.map fun x => ((⟨tm1, m1⟩ : St).ev x).strip) ++ zET caps) ars [] := by exact zg) (hn : zAR ⟨tm1, m1⟩ (fo :: args.toList) = [] := by exact rfl) (hd : zB0 nt o.dst = true := by exact rfl) (hgl : gs.map (fun x => tm1 (1000000 + x.1)) = gs.map fun x => .one (.eptr x.2) := by exact rfl)
  (hids : zCT ms ms' L K A = true := by exact rfl) (hin : zHj (zDH m1 []) ms (zBN m1 (L ++ K)) (L ++ K) := by exact zzi) (hsh : zJe ms ms' L := by exact zzi) (h2 : zGb tab nt ops rest [] (zF1 tm1 o.dst (r.rn (zBu (zDH m1 []) L A))) (zDo (zDH m1 []) ms' L K A) = some ⟨ps2, tm2, m2, []⟩ := by exact rfl) (hp2 : zBh ps2 := by exact zzt) : Tr Tryz.prog X c0 ⟨tm, m⟩ Q0 :=
 z.go <| zAa (zzx hnt h1 hp (zA9 (us := []) L K A hop hgd hfo hcap hfn has (fun _ => rfl) hn hd hnt hgl hids hin hsh (zzx hnt h2 hp2 (Lex.nil _)))) k
theorem zQ {c0 : Code} {Q0 : Exit -> St -> Prop} [z : Zf Tryz.prog X c0 ⟨tm, m⟩ Q0 (.region id ops false) Q] {ver : Nat} {c : Cs} {cs : List D0} {e2 e3 : (Nat -> Value) -> List E} (i : Nat) (mask : List Bool) (hfn : ∀ u, FnH Tryz.prog f gs (zDF (e2 u)) ars r (zDF (e3 u))) (k : Q .normal ⟨tm2, m2⟩) (hnt : X.nt = nt := by assumption) (h1 : zGb tab nt ops ops.toList [] tm m = some ⟨ps, tm1, m1, o :: rest⟩ := by exact rfl) (hp : zBh ps := by exact zzt) (hop : o.op = .call ⟨.value fo, args, ts⟩ := by exact rfl) (hgd : zBT ops ⟨tm1, m1⟩ o = .free := by exact rfl) (hfo : ((⟨tm1, m1⟩ : St).ev fo).strip = .one (.clo f []) := by exact rfl)
  (hm : m1 i = some ⟨ver, .box c, 0⟩ := by exact rfl) (hcs : c.d0 = cs := by exact rfl) (e2h : ∀ u, (e2 u).map D0.e = zCE u 0 mask cs := by exact fun _ => rfl) (e3h : ∀ u, (e3 u).map D0.e = zCE u 0 mask (zK0 mask cs ((e3 fun _ => undef).map D0.e)) := by exact fun _ => rfl) (hlen : cs.length = (e3 fun _ => undef).length := by exact rfl)
  (has : ∀ u, ArgsH (upd m1 i (some ⟨ver, .box (.es (e2 u)), 0⟩)) (zBN (upd m1 i (some ⟨ver, .box (.es (e2 u)), 0⟩)) [(900000, i)]) (fun c => isS (zAl (zDF (e2 u)) c)) (args.toList.map fun x => ((⟨tm1, m1⟩ : St).ev x).strip) ars [] := by exact fun _ => zg) (hn : zAR ⟨tm1, m1⟩ (fo :: args.toList) = [] := by exact rfl) (hd : zB0 nt o.dst = true := by exact rfl) (hgl : gs.map (fun x => tm1 (1000000 + x.1)) = gs.map fun x => .one (.eptr x.2) := by exact rfl) (hr0 : ∀ ρ, r.rn ρ = r := by exact fun _ => rfl)
  (h2 : zGb tab nt ops rest [] (zF1 tm1 o.dst r) (upd m1 i (some ⟨ver, .box (.ds (zK0 mask cs ((e3 fun _ => undef).map D0.e))), 0⟩)) = some ⟨ps2, tm2, m2, []⟩ := by exact rfl) (hp2 : zBh ps2 := by exact zzt) : Tr Tryz.prog X c0 ⟨tm, m⟩ Q0 :=
 z.go <| zAa (zzx hnt h1 hp (zWv i mask hop hgd hfo hfn hm hcs e2h e3h hlen has hn hd hnt hgl hr0 (zzx hnt h2 hp2 (Lex.nil _)))) k
theorem zPQ {c0 : Code} {Q0 : Exit -> St -> Prop} [z : Zf Tryz.prog X c0 ⟨tm, m⟩ Q0 (.region id ops false) Q] {ver n : Nat} {c : Cs} {cs : List D0} {e2 : (Nat -> Value) -> List E} (K i : Nat) (mask : List Bool) (hfn : ∀ u, FnX Tryz.prog [(900000, n)] f gs (zDF (e2 u)) ars ch) (k : ∀ x : Nat -> Nat -> Value, Q (.panic ch) ⟨tm1, upd m1 i (some ⟨ver, .box (.es (zCJ n (x 900000))), 0⟩)⟩) (hnt : X.nt = nt := by assumption) (h1 : zGb tab nt ops (ops.toList.take K) [] tm m = some ⟨ps, tm1, m1, []⟩ := by exact rfl) (hp : zBh ps := by exact zzt) (hdr : ops.toList.drop K = o :: rest := by exact rfl) (hop : o.op = .call ⟨.value fo, args, ts⟩ := by exact rfl) (hgd : zBT ops ⟨tm1, m1⟩ o = .free := by exact rfl) (hfo : ((⟨tm1, m1⟩ : St).ev fo).strip = .one (.clo f []) := by exact rfl)
  (hm : m1 i = some ⟨ver, .box c, 0⟩ := by exact rfl) (hcs : c.d0 = cs := by exact rfl) (e2h : ∀ u, (e2 u).map D0.e = zCE u 0 mask cs := by exact fun _ => rfl) (hlen : cs.length = n := by exact rfl)
  (has : ∀ u, ArgsH (upd m1 i (some ⟨ver, .box (.es (e2 u)), 0⟩)) (zBN (upd m1 i (some ⟨ver, .box (.es (e2 u)), 0⟩)) [(900000, i)]) (fun c => isS (zAl (zDF (e2 u)) c)) (args.toList.map fun x => ((⟨tm1, m1⟩ : St).ev x).strip) ars [] := by exact fun _ => zg) (hn : zAR ⟨tm1, m1⟩ (fo :: args.toList) = [] := by exact rfl) (hgl : gs.map (fun x => tm1 (1000000 + x.1)) = gs.map fun x => .one (.eptr x.2) := by exact rfl) : Tr Tryz.prog X c0 ⟨tm, m⟩ Q0 :=
 z.go <| zAE K (zzx hnt h1 hp (Lex.nil _)) (hdr ▸ zU6 i mask hop hgd hfo hfn hm hcs e2h hlen has hn hgl) k
theorem zP {c0 : Code} {Q0 : Exit -> St -> Prop} [z : Zf Tryz.prog X c0 ⟨tm, m⟩ Q0 (.region id ops false) Q] {σ : Type} [Inhabited σ] {mx : σ -> List (Nat × Blk)} (K0 : Nat) (L K A : List (Nat × Nat)) (hfn : FnP Tryz.prog f gs ms ars ch mx) (k : ∀ x, Q (.panic ch) ⟨tm1, zDo (zDH m1 []) (mx x) L K A⟩) (hnt : X.nt = nt := by assumption) (h1 : zGb tab nt ops (ops.toList.take K0) [] tm m = some ⟨ps, tm1, m1, []⟩ := by exact rfl) (hp : zBh ps := by exact zzt) (hdr : ops.toList.drop K0 = o :: rest := by exact rfl) (hop : o.op = .call ⟨.value fo, args, ts⟩ := by exact rfl) (hgd : zBT ops ⟨tm1, m1⟩ o = .free := by exact rfl) (hfo : ((⟨tm1, m1⟩ : St).ev fo).strip = .one (.clo f caps) := by exact rfl) (hcap : zC4 m1 caps = true := by exact rfl)
  (has : ArgsH m1 (zBN m1 (L ++ K)) (fun c => isS (zAl ms c)) ((args.toList.map fun x => ((⟨tm1, m1⟩ : St).ev x).strip) ++ zET caps) ars [] := by exact zg) (hn : zAR ⟨tm1, m1⟩ (fo :: args.toList) = [] := by exact rfl) (hgl : gs.map (fun x => tm1 (1000000 + x.1)) = gs.map fun x => .one (.eptr x.2) := by exact rfl)
  (hids : ∀ x, zCT ms (mx x) L K A = true := by exact fun _ => rfl) (hin : zHj (zDH m1 []) ms (zBN m1 (L ++ K)) (L ++ K) := by exact zzi) (hsh : ∀ x, zJe ms (mx x) L := by exact fun _ => zzi) : Tr Tryz.prog X c0 ⟨tm, m⟩ Q0 :=
 z.go <| zAE K0 (zzx hnt h1 hp (Lex.nil _)) (hdr ▸ zFn (us := []) L K A hop hgd hfo hcap hfn has (fun _ => rfl) hn hgl hids default hin hsh) k
theorem zVD {c0 : Code} {Q0 : Exit -> St -> Prop} [z : Zf Tryz.prog X c0 ⟨tm, m⟩ Q0 (.region id ops true) Q] {rd : List Nat} {fps fps2 : List FP} (hfn : FnG Tryz.prog f gs ars r) (k : Q .normal ⟨tm2, m2⟩) (hnt : X.nt = nt := by assumption) (h1 : zKO tab nt ops ops.toList [] tm m = some ⟨ps, tm1, m1, o :: rest, fps⟩ := by exact rfl) (hp : zBh ps := by exact zzt) (hop : o.op = .call ⟨.value fo, args, ts⟩ := by exact rfl) (hgd : zBT ops ⟨tm1, m1⟩ o = .free := by exact rfl) (hfo : ((⟨tm1, m1⟩ : St).ev fo).strip = .one (.clo f []) := by exact rfl)
  (has : zBi m1 (args.toList.map fun x => ((⟨tm1, m1⟩ : St).ev x).strip) = some (ars, []) := by exact rfl) (hn : zAR ⟨tm1, m1⟩ (fo :: args.toList) = [] := by exact rfl) (hd : o.dst = some t := by exact rfl) (hlt : Nat.blt t nt = true := by exact rfl) (hrd : (zLi (zKs ⟨tm1, m1⟩ o.op.operands.toList) fun rd => some rd) = some rd := by exact rfl) (hgl : gs.map (fun x => tm1 (1000000 + x.1)) = gs.map fun x => .one (.eptr x.2) := by exact rfl) (h2 : zKO tab nt ops rest [] (upd tm1 t r) m1 = some ⟨ps2, tm2, m2, [], fps2⟩ := by exact rfl) (hp2 : zBh ps2 := by exact zzt)
  (hB : zQG .any ops (fps ++ (t :: rd, []) :: (fps2 ++ [])) ops.size 0 (Array.replicate ops.size false) = true := by first | decide +kernel | kernel_rfl) : Tr Tryz.prog X c0 ⟨tm, m⟩ Q0 :=
 z.go <| zAK (T := tab) tOk hnt zzm (zA2 (T := tab) h1 hp (zCI hop hgd hfo has hn hd hlt hrd hgl hfn (zA2 (T := tab) h2 hp2 (.nil _)))) hB k
end
section
variable {f : Nat} {fn : Func} {c : Code} {gs : List (Nat × List E)} {args : List D} {r : D} {ms ms' : List (Nat × Blk)} {q : Prop} {ch : List PanicEntry}
theorem zD (n : Nat) (hf : Tryz.prog.funcs[f]? = some fn) (h : ∀ X : Ctx, X.nt = n -> Tr Tryz.prog X c (St.start args) (Ab.Ends tab fn.results.toList r)) (hb : fn.body = some c := by exact rfl) (hname : (fn.name == "runtime.NumGoroutine") = false := by kernel_rfl) (hn : args.length <= fn.ntmps := by exact Nat.le_of_ble_eq_true rfl) (hnn : fn.ntmps = n := by exact rfl) (hbig : Nat.ble fn.ntmps 900000 = true := by exact rfl) (hlt : Nat.ble 1048576 f = false := by exact rfl) : FnD Tryz.prog f args r := zQQ (T := tab) tOk hf hb hname hn (fun X hX => h X (hX.trans hnn)) hbig hlt
theorem zG (n : Nat) (hf : Tryz.prog.funcs[f]? = some fn) (h : ∀ X : Ctx, X.nt = n -> Tr Tryz.prog X c (St.startG gs args) (Ab.Ends tab fn.results.toList r)) (hb : fn.body = some c := by exact rfl) (hname : (fn.name == "runtime.NumGoroutine") = false := by kernel_rfl) (hn : args.length <= fn.ntmps := by exact Nat.le_of_ble_eq_true rfl) (hnn : fn.ntmps = n := by exact rfl) (hbig : Nat.ble fn.ntmps 900000 = true := by exact rfl) (hlt : Nat.ble 1048576 f = false := by exact rfl) : FnG Tryz.prog f gs args r := zJ4 (T := tab) tOk hf hb hname hn (fun X hX => h X (hX.trans hnn)) hbig hlt
theorem zFH (n : Nat) (hf : Tryz.prog.funcs[f]? = some fn) (h : ∀ X : Ctx, X.nt = n -> Tr Tryz.prog X c (St.startH gs ms args) (zRd tab fn.results.toList r ms ms')) (hb : fn.body = some c := by exact rfl) (hname : (fn.name == "runtime.NumGoroutine") = false := by kernel_rfl) (hn : args.length <= fn.ntmps := by exact Nat.le_of_ble_eq_true rfl) (hnn : fn.ntmps = n := by exact rfl) (hin : zOH ms = true := by exact rfl) (hout : zE4 ms' ms = true := by exact rfl) (hbig : Nat.ble fn.ntmps 900000 = true := by exact rfl) (hlt : Nat.ble 1048576 f = false := by exact rfl) : FnH Tryz.prog f gs ms args r ms' := zGU (T := tab) tOk hf hb hname hn hin hout (fun X hX => h X (hX.trans hnn)) hbig hlt
theorem zFX {sp : List (Nat × Nat)} (n : Nat) (hf : Tryz.prog.funcs[f]? = some fn) (h : ∀ X : Ctx, X.nt = n -> Tr Tryz.prog X c (St.startH gs ms args) (zR7 sp tab fn.results.toList q r ms ms' ch)) (hb : fn.body = some c := by exact rfl) (hname : (fn.name == "runtime.NumGoroutine") = false := by kernel_rfl) (hn : args.length <= fn.ntmps := by exact Nat.le_of_ble_eq_true rfl) (hnn : fn.ntmps = n := by exact rfl) (hin : zOH ms = true := by exact rfl) (hp : ∀ x, zFu ms = zFu (mxS sp x) := by exact fun _ => rfl) (h9 : sp.all (fun y => Nat.ble 900000 y.1) = true := by exact rfl) (hout : zE4 ms' ms = true := by exact rfl) (houx : ∀ x, zE4 (mxS sp x) ms = true := by exact fun _ => rfl) (hbig : Nat.ble fn.ntmps 900000 = true := by exact rfl) (hlt : Nat.ble 1048576 f = false := by exact rfl) : zEU Tryz.prog sp f gs ms args q r ms' ch := zNu (T := tab) tOk hf hb hname hn hin hp h9 hout houx (fun X hX => h X (hX.trans hnn)) hbig hlt
end
end Go.Proofs.YtcdifgacoleckaaGreatDoor
namespace Go.Proofs.YtcdifgacoleckaaGreatDoor.Ab
open Go Go.RowKit
def eQ (x : BitVec 64) : E := .v (.int .u64 (x.toNat : Int))
theorem zVo (x : BitVec 64) : BitVec.ofInt 64 (x.toNat : Int) = x := by
 rw [BitVec.ofInt_natCast, BitVec.ofNat_toNat, BitVec.setWidth_eq]
theorem zOo (n : Int) : IntKind.u64.wrap n = ((BitVec.ofInt 64 n).toNat : Int) := by
 unfold IntKind.wrap
 rw [BitVec.toNat_ofInt]
 simp [IntKind.bits, IntKind.signed]
 omega
theorem zWG (x : BitVec 64) : IntKind.u64.wrap (x.toNat : Int) = (x.toNat : Int) := by rw [zOo, zVo]
theorem zVn (x y : BitVec 64) : IntKind.u64.wrap (((BitVec.ofInt IntKind.u64.bits (x.toNat : Int)) ||| (BitVec.ofInt IntKind.u64.bits (y.toNat : Int))).toNat : Int) = ((x ||| y).toNat : Int) := by
 rw [show IntKind.u64.bits = 64 from rfl, zVo, zVo, zWG]
theorem zVN (x : BitVec 64) (k : Nat) : IntKind.u64.wrap ((x.toNat : Int) * 2 ^ k) = ((x <<< k).toNat : Int) := by
 rw [zOo, BitVec.toNat_shiftLeft, BitVec.toNat_ofInt, Nat.shiftLeft_eq]
 have : ((x.toNat : Int) * 2 ^ k) = ((x.toNat * 2 ^ k : Nat) : Int) := by push_cast; rfl
 rw [this]
 omega
theorem zT8 (b : UInt8) : IntKind.u64.wrap (b.toNat : Int) = ((BitVec.ofNat 64 b.toNat).toNat : Int) := by
 rw [zOo, BitVec.ofInt_natCast]
end Go.Proofs.YtcdifgacoleckaaGreatDoor.Ab
namespace Go.Proofs.YtcdifgacoleckaaGreatDoor
open Go Go.RowKit Go.Proofs.YtcdifgacoleckaaGreatDoor.Ab
set_option maxRecDepth 100000
set_option maxHeartbeats 4000000
abbrev Byt := List UInt8
theorem zAO : Tryz.prog.follows .mixedOrders = true := by kernel_rfl
def eT (l : Byt) : E := .v (.string (zA5 l))
theorem zVb {C : Nat -> Nat -> Value -> Prop} {w : World} {x : Value} {vs : Array Value} (h : zHy C w [.v x] vs.toList) : vs = #[x] := by
 obtain ⟨h1, h2⟩ := h
 obtain ⟨l⟩ := vs
 match l, h1 with
 | [u], _ => rw [zCu (h2 0 (.v x) u rfl rfl)]
theorem zLd (n : Int) : FnE Tryz.prog 86 [.v (.int .u64 n)] (.v (.float .f64 n.toNat)) := by
 refine ⟨rfl, fun w vs C h => ?_⟩
 obtain rfl := zVb h
 refine ⟨_, ?_, zAF rfl⟩
 unfold callFunc
 simp only [Sem.run_bind, run_program, Result.andThen_ok, Tryz.func86]
 rfl
theorem zS8 (n : Nat) : FnE Tryz.prog 106 [.v (.float .f64 n)] (.v (.int .u64 n)) := by
 refine ⟨rfl, fun w vs C h => ?_⟩
 obtain rfl := zVb h
 refine ⟨_, ?_, zAF rfl⟩
 unfold callFunc
 simp only [Sem.run_bind, run_program, Result.andThen_ok, Tryz.func106]
 rfl
theorem zM5 (n : Nat) : FnD Tryz.prog 87 [.one (.e (.v (.float .f64 n)))] (.v (.bool (decide (IntKind.i64.wrap (n : Int) < 0)))) := by
 refine zD 7 Tryz.func87 fun X hnt => ?_
 repeat' first | refine zx ?_ | apply zn
 repeat' apply zn
 refine zAa (zzx hnt rfl ?_ (zU7 rfl rfl rfl rfl rfl rfl rfl hnt (zS8 n) (zzx hnt rfl ?_ (Lex.nil _)))) ?_
 ·exact zzt
 ·exact zzt
 exact zAb ⟨.inr rfl, _, _, rfl, trivial, rfl⟩
def bq (l : Byt) (i : Nat) : BitVec 64 := BitVec.ofNat 64 (l.getD i 0).toNat
def wdQ (l : Byt) : BitVec 64 := bq l 0 ||| bq l 1 <<< 8 ||| bq l 2 <<< 16 ||| bq l 3 <<< 24 ||| bq l 4 <<< 32 ||| bq l 5 <<< 40 ||| bq l 6 <<< 48 ||| bq l 7 <<< 56
theorem zH8 (l : Byt) (h : 8 <= l.length) : FnD Tryz.prog 97 [.one (.e (eT l))] (.one (.e (eQ (wdQ l)))) := by
 refine zD 59 Tryz.func97 fun X hnt => ?_
 have hl : (zA5 l).size = l.length := zAJ l
 repeat' first | refine zx ?_ | apply zn
 refine zAj rfl (fun h => nomatch (show false = true from h)) (fun _ => ?_)
 repeat' first | refine zy ?_ ?_ | apply zn
 ·rw [hl]
  (dsimp only [zBh]; (repeat' first | exact trivial | assumption | exact Nat.le_of_ble_eq_true rfl | apply And.intro | exact zAm _ _ ‹_› | exact zAi _ _ ‹_› | (intro hh_; have hg_ := hh_; (try simp only [zAr, zAs, decide_eq_true_eq, decide_eq_false_iff_not] at hg_)) | intro _ | exact rfl | omega))
 repeat' apply zn
 refine zAb ⟨.inr rfl, _, _, rfl, trivial, ?_⟩
 refine congrArg (fun z : Int => D.one (D0.e (E.v (.int .u64 z)))) ?_
 simp only [show min (Int.toNat 8) IntKind.u64.bits = 8 from rfl, show min (Int.toNat 16) IntKind.u64.bits = 16 from rfl, show min (Int.toNat 24) IntKind.u64.bits = 24 from rfl, show min (Int.toNat 32) IntKind.u64.bits = 32 from rfl, show min (Int.toNat 40) IntKind.u64.bits = 40 from rfl, show min (Int.toNat 48) IntKind.u64.bits = 48 from rfl, show min (Int.toNat 56) IntKind.u64.bits = 56 from rfl, zT8, zVN, zVn]
 rfl
theorem zSP : ∀ i : Fin 8, (BitVec.ofInt 64 9259542123273814144).getLsbD (8 * i.val + 7) = true := by decide
theorem zNJ {b : UInt8} (h : (BitVec.ofNat 64 b.toNat).getLsbD 7 = false) : b.toNat < 128 := by
 have hb := b.toNat_lt
 rw [BitVec.getLsbD_ofNat] at h
 simp only [Nat.testBit, Bool.and_eq_false_iff] at h
 rcases h with h | h
 ·simp at h
 ·rw [Nat.shiftRight_eq_div_pow] at h
  simp at h
  omega
theorem zPX {l : Byt} (h : wdQ l &&& BitVec.ofInt 64 9259542123273814144 = 0#64) (i : Nat) (hi : i < 8) : (l.getD i 0).toNat < 128 := by
 have h1 : (wdQ l &&& BitVec.ofInt 64 9259542123273814144).getLsbD (8 * i + 7) = false := by rw [h]; simp
 rw [BitVec.getLsbD_and, zSP ⟨i, hi⟩, Bool.and_true] at h1
 refine zNJ ?_
 have hz : ∀ (j k : Nat), 8 <= k -> (bq l j).getLsbD k = false := fun j k hk => by
  unfold bq
  rw [BitVec.getLsbD_ofNat, Nat.testBit_lt_two_pow (Nat.lt_of_lt_of_le (l.getD j 0).toNat_lt (Nat.pow_le_pow_right (by decide) hk))]
  simp
 unfold wdQ at h1
 simp only [BitVec.getLsbD_or, BitVec.getLsbD_shiftLeft, Bool.or_eq_false_iff] at h1
 obtain ⟨⟨⟨⟨⟨⟨⟨h0, h1⟩, h2⟩, h3⟩, h4⟩, h5⟩, h6⟩, h7⟩ := h1
 match i, hi with
 | 0, _ => exact h0
 | 1, _ => show (bq l 1).getLsbD 7 = false; simpa using h1
 | 2, _ => show (bq l 2).getLsbD 7 = false; simpa using h2
 | 3, _ => show (bq l 3).getLsbD 7 = false; simpa using h3
 | 4, _ => show (bq l 4).getLsbD 7 = false; simpa using h4
 | 5, _ => show (bq l 5).getLsbD 7 = false; simpa using h5
 | 6, _ => show (bq l 6).getLsbD 7 = false; simpa using h6
 | 7, _ => show (bq l 7).getLsbD 7 = false; simpa using h7
def utT : List Nat := List.replicate 128 240 ++ List.replicate 64 241 ++ List.replicate 2 241 ++ List.replicate 30 2 ++ List.replicate 1 19 ++ List.replicate 12 3 ++ List.replicate 1 35 ++ List.replicate 2 3 ++ List.replicate 1 52 ++ List.replicate 3 4 ++ List.replicate 1 68 ++ List.replicate 11 241
def acT : List Nat := [128, 191, 160, 191, 128, 159, 144, 191, 128, 143] ++ List.replicate 22 0
def eU8 (n : Nat) : E := .v (.int .u8 (n : Int))
def fsE : List E := utT.map eU8
def acE : List E := acT.map eU8
def gK : List (Nat × List E) := [(5, fsE), (6, acE)]
def tb (a : UInt8) : Nat := utT.getD a.toNat 0
def sz (a : UInt8) : Nat := tb a % 8
def alo (a : UInt8) : Nat := acT.getD (tb a / 16 * 2) 0
def ahi (a : UInt8) : Nat := acT.getD (tb a / 16 * 2 + 1) 0
def bI (x : Byt) (i : Nat) : Int := ((x.getD i 0).toNat : Int)
def zTb (x : Byt) : Bool := bif (bif decide ((x.length : Int) < 2) then true else decide (bI x 1 < alo (x.getD 0 0))) then true else decide ((ahi (x.getD 0 0) : Int) < bI x 1)
def zTa (x : Byt) : Bool := bif (bif (bif (bif decide ((x.length : Int) < 3) then true else decide (bI x 1 < alo (x.getD 0 0))) then true else decide ((ahi (x.getD 0 0) : Int) < bI x 1)) then true else decide (bI x 2 < 128)) then true else decide (191 < bI x 2)
def zS9 (x : Byt) : Bool := bif (bif (bif (bif (bif (bif decide ((x.length : Int) < 4) then true else decide (bI x 1 < alo (x.getD 0 0))) then true else decide ((ahi (x.getD 0 0) : Int) < bI x 1)) then true else decide (bI x 2 < 128)) then true else decide (191 < bI x 2)) then true else decide (bI x 3 < 128)) then true else decide (191 < bI x 3)
def zHp (x : Byt) : Option Nat :=
 if (x.getD 0 0).toNat < 128 then some 1
 else if sz (x.getD 0 0) = 2 then (if zTb x = true then none else some 2)
 else if sz (x.getD 0 0) = 3 then (if zTa x = true then none else some 3)
 else if sz (x.getD 0 0) = 4 then (if zS9 x = true then none else some 4)
 else none
def zNR : Nat -> Byt -> Bool
 | 0, _ => true
 | n + 1, x => if x = [] then true else match zHp x with
  | none => false
  | some k => zNR n (x.drop k)
def vld (x : Byt) : Bool := zNR x.length x
theorem zJr {x : Byt} {k : Nat} (h : zHp x = some k) : 1 <= k := by
 unfold zHp at h
 split at h
 ·cases h; exact Nat.le_refl _
 ·split at h
  ·split at h <;> cases h; decide
  ·split at h
   ·split at h <;> cases h; decide
   ·split at h
    ·split at h <;> cases h; decide
    ·cases h
theorem zNX : ∀ (n m : Nat) (x : Byt), x.length <= n -> x.length <= m -> zNR n x = zNR m x
 | 0, 0, _, _, _ => rfl
 | 0, m + 1, x, h, _ => by rw [zNR, zNR, if_pos (List.eq_nil_of_length_eq_zero (Nat.le_zero.1 h))]
 | n + 1, 0, x, _, h => by rw [zNR, zNR, if_pos (List.eq_nil_of_length_eq_zero (Nat.le_zero.1 h))]
 | n + 1, m + 1, x, h1, h2 => by
  rw [zNR, zNR]
  split
  ·rfl
  ·cases hs : zHp x with
   | none => rfl
   | some k =>
    have := zJr hs
    rename_i hne
    have := List.length_pos_iff.2 hne
    exact zNX n m (x.drop k) (by rw [List.length_drop]; omega) (by rw [List.length_drop]; omega)
theorem zSc : vld [] = true := rfl
theorem zLz {x : Byt} (h : x ≠ []) : vld x = match zHp x with
  | none => false
  | some k => vld (x.drop k) := by
 cases x with
 | nil => exact absurd rfl h
 | cons a r =>
  show zNR (r.length + 1) (a :: r) = _
  rw [zNR, if_neg h]
  cases hs : zHp (a :: r) with
  | none => rfl
  | some k =>
   have := zJr hs
   exact zNX _ _ _ (by rw [List.length_drop, List.length_cons]; omega) (Nat.le_refl _)
theorem zJj {x : Byt} (h : x ≠ []) (ha : (x.getD 0 0).toNat < 128) : vld (x.drop 1) = vld x := by
 rw [zLz h, show zHp x = some 1 by unfold zHp; rw [if_pos ha]]
theorem zLA : ∀ (n : Nat) (x : Byt), n <= x.length -> (∀ i, i < n -> (x.getD i 0).toNat < 128) -> vld (x.drop n) = vld x
 | 0, _, _, _ => rfl
 | n + 1, x, h, ha => by
  have hne : x ≠ [] := fun e => by rw [e] at h; simp at h
  rw [<-zJj hne (ha 0 (Nat.succ_pos n)), <-zLA n (x.drop 1) (by rw [List.length_drop]; omega) (fun i hi => by
   have := ha (i + 1) (by omega)
   rw [List.getD_eq_getElem?_getD] at this ⊢
   rw [List.getElem?_drop, Nat.add_comm]
   exact this), List.drop_drop, Nat.add_comm]
theorem zVE (a : UInt8) : ((fsE.drop (Int.toNat (a.toNat : Int) * 1)).getD 0 E.dflt).int = (tb a : Int) := by
 have h : ∀ n : Fin 256, (fsE.drop (n.val * 1)).getD 0 E.dflt = eU8 (utT.getD n.val 0) := by
  intro n
  have hn := n.isLt
  rw [Nat.mul_one, List.getD_eq_getElem?_getD, List.getElem?_drop, Nat.add_zero]
  have hl : n.val < utT.length := by rw [show utT.length = 256 by kernel_rfl]; exact hn
  unfold fsE
  rw [List.getElem?_map, List.getD_eq_getElem?_getD, List.getElem?_eq_getElem hl]
  rfl
 exact congrArg E.int (h ⟨a.toNat, a.toNat_lt⟩)
theorem zRV (a : UInt8) : 0 < (Cs.es (fsE.drop (Int.toNat (a.toNat : Int) * 1))).len := by
 have := a.toNat_lt
 show 0 < (fsE.drop (a.toNat * 1)).length
 rw [List.length_drop, show fsE.length = 256 by kernel_rfl]
 omega
theorem zUO (a : UInt8) : D0.isA (.int .u8) ((Cs.es (fsE.drop (Int.toNat (a.toNat : Int) * 1))).at 0) := by
 have h : ∀ e ∈ fsE, e.as (.int .u8) = e := fun e he => by
  obtain ⟨n, _, rfl⟩ := List.mem_map.1 he
  rfl
 have hl := zRV a
 have hl : 0 < (fsE.drop (Int.toNat (a.toNat : Int) * 1)).length := hl
 refine h _ (List.mem_of_mem_drop (i := Int.toNat (a.toNat : Int) * 1) ?_)
 rw [List.getD_eq_getElem?_getD, List.getElem?_eq_getElem hl]
 exact List.getElem_mem hl
theorem zSj (a : UInt8) : IntKind.i64.wrap (IntKind.u8.wrap ((BitVec.ofInt IntKind.u8.bits (tb a : Int) &&& BitVec.ofInt IntKind.u8.bits 7).toNat : Int)) = (sz a : Int) := by
 have h : ∀ n : Fin 256, IntKind.i64.wrap (IntKind.u8.wrap ((BitVec.ofInt IntKind.u8.bits ((utT.getD n.val 0 : Nat) : Int) &&& BitVec.ofInt IntKind.u8.bits 7).toNat : Int)) = ((utT.getD n.val 0 % 8 : Nat) : Int) := by decide +kernel
 exact h ⟨a.toNat, a.toNat_lt⟩
theorem zTO (a : UInt8) : Int.toNat (Int.fdiv (tb a : Int) (2 ^ min (Int.toNat 4) IntKind.u8.bits)) = tb a / 16 := by
 rw [show (2 : Int) ^ min (Int.toNat 4) IntKind.u8.bits = ((16 : Nat) : Int) from rfl, Int.fdiv_eq_ediv_of_nonneg _ (Int.natCast_nonneg _)]
 rfl
theorem zTN (a : UInt8) : tb a / 16 < 16 := by
 have h : ∀ n : Fin 256, utT.getD n.val 0 / 16 < 16 := by decide +kernel
 exact h ⟨a.toNat, a.toNat_lt⟩
theorem zR6 (a : UInt8) : List.take 2 (List.drop 0 (List.drop (Int.toNat (Int.fdiv (tb a : Int) (2 ^ min (Int.toNat 4) IntKind.u8.bits)) * 2) acE)) = [eU8 (alo a), eU8 (ahi a)] := by
 have h : ∀ k : Fin 16, List.take 2 (List.drop (k.val * 2) acT) = [acT.getD (k.val * 2) 0, acT.getD (k.val * 2 + 1) 0] := by decide +kernel
 have := congrArg (List.map eU8) (h ⟨_, zTN a⟩)
 rw [List.map_take, List.map_drop] at this
 rw [zTO]
 exact this
theorem zWy (a : UInt8) : Int.fdiv (tb a : Int) (2 ^ min (Int.toNat 4) IntKind.u8.bits) < ((16 : Nat) : Int) /\ 0 <= Int.fdiv (tb a : Int) (2 ^ min (Int.toNat 4) IntKind.u8.bits) /\ True := by
 have h : Int.fdiv (tb a : Int) (2 ^ min (Int.toNat 4) IntKind.u8.bits) = ((tb a / 16 : Nat) : Int) := by
  rw [show (2 : Int) ^ min (Int.toNat 4) IntKind.u8.bits = ((16 : Nat) : Int) from rfl, Int.fdiv_eq_ediv_of_nonneg _ (Int.natCast_nonneg _)]
  rfl
 have := zTN a
 exact ⟨by omega, by omega, trivial⟩
theorem zCt (x : Byt) (k : Nat) : (zA5 x).extract k (Int.toNat ((zA5 x).size : Int)) = zA5 (x.drop k) := by
 rw [zJq, Int.toNat_natCast, zAJ, List.take_of_length_le (Nat.le_refl _)]
def hiz (w : BitVec 64) : Prop := w &&& BitVec.ofInt 64 9259542123273814144 = 0#64
theorem zOZ {a b : BitVec 64} (h : hiz (a ||| b)) : hiz a /\ hiz b := by
 have h : ∀ i, ((a ||| b) &&& BitVec.ofInt 64 9259542123273814144).getLsbD i = false := fun i => by rw [h]; simp
 constructor <;>
 ·apply BitVec.eq_of_getLsbD_eq
  intro i _
  have := h i
  simp only [BitVec.getLsbD_and, BitVec.getLsbD_or] at this ⊢
  rw [BitVec.getLsbD_zero]
  cases ha : a.getLsbD i <;> cases hb : b.getLsbD i <;> simp_all
theorem zO0 {w : BitVec 64} (h : decide (IntKind.u64.wrap ((BitVec.ofInt IntKind.u64.bits (w.toNat : Int) &&& BitVec.ofInt IntKind.u64.bits 9259542123273814144).toNat : Int) = 0) = true) : hiz w := by
 have h := of_decide_eq_true h
 rw [show IntKind.u64.bits = 64 from rfl, zVo, zWG] at h
 exact BitVec.eq_of_toNat_eq (by have : (0#64).toNat = 0 := rfl; rw [this]; exact Int.ofNat.inj h)
theorem zLy {x : Byt} (h : 8 <= x.length) (hz : hiz (wdQ x)) : vld (x.drop 8) = vld x := zLA 8 x h fun i hi => zPX hz i hi
theorem zH7 (x : Byt) (k : Nat) (h : 8 <= (x.drop k).length) : FnD Tryz.prog 97 [.one (.e (.v (.string ((zA5 x).extract k (Int.toNat ((zA5 x).size : Int))))))] (.one (.e (eQ (wdQ (x.drop k))))) := by
 rw [zCt]
 exact zH8 (x.drop k) h
theorem zRO {c : Bool} {x : Byt} {n : Int} (h : (bif decide (n < ((zA5 x).size : Int)) then c else false) = true) : n < (x.length : Int) /\ c = true := by
 rw [zAJ] at h
 cases hd : decide (n < (x.length : Int)) with
 | true => rw [hd] at h; exact ⟨of_decide_eq_true hd, h⟩
 | false => rw [hd] at h; cases h
theorem zMm {a b : BitVec 64} (h : decide (IntKind.u64.wrap ((BitVec.ofInt IntKind.u64.bits (IntKind.u64.wrap ((BitVec.ofInt IntKind.u64.bits (a.toNat : Int) ||| BitVec.ofInt IntKind.u64.bits (b.toNat : Int)).toNat : Int)) &&& BitVec.ofInt IntKind.u64.bits 9259542123273814144).toNat : Int) = 0) = true) : hiz a /\ hiz b := by
 rw [zVn] at h
 exact zOZ (zO0 h)
theorem zQN {a b c d : BitVec 64} (h : decide (IntKind.u64.wrap ((BitVec.ofInt IntKind.u64.bits (IntKind.u64.wrap ((BitVec.ofInt IntKind.u64.bits (IntKind.u64.wrap ((BitVec.ofInt IntKind.u64.bits (a.toNat : Int) ||| BitVec.ofInt IntKind.u64.bits (b.toNat : Int)).toNat : Int)) ||| BitVec.ofInt IntKind.u64.bits (IntKind.u64.wrap ((BitVec.ofInt IntKind.u64.bits (c.toNat : Int) ||| BitVec.ofInt IntKind.u64.bits (d.toNat : Int)).toNat : Int))).toNat : Int)) &&& BitVec.ofInt IntKind.u64.bits 9259542123273814144).toNat : Int) = 0) = true) : (hiz a /\ hiz b) /\ hiz c /\ hiz d := by
 rw [zVn, zVn] at h
 have := zMm h
 exact ⟨zOZ this.1, zOZ this.2⟩
theorem zGt {x : Byt} : ∀ (n : Nat), n * 8 <= x.length -> (∀ i, i < n -> hiz (wdQ (x.drop (i * 8)))) -> vld (x.drop (n * 8)) = vld x
 | 0, _, _ => rfl
 | n + 1, h, hz => by
  rw [<-zGt n (by omega) (fun i hi => hz i (by omega)), <-zLy (x := x.drop (n * 8)) (by rw [List.length_drop]; omega) (hz n (by omega)), List.drop_drop]
  congr 2
  omega
theorem zGa (l : Byt) : FnG Tryz.prog 78 gK [.one (.e (eT l))] (.v (.bool (vld l))) := by
 refine zG 169 Tryz.func78 fun X hnt => ?_
 repeat' first | refine zx ?_ | apply zn
 repeat' apply zn
 refine zAx (σ := Byt) (fun x => St.of [(0, .one (.e (eT x))), ((1000000 + 5), .one (.eptr fsE)), ((1000000 + 6), .one (.eptr acE))] []) (fun x => vld x = vld l) (fun x => x.length) (l) (zAh (ad := []) ⟨zzl, zzl, zzl, trivial⟩ trivial) rfl ?_
 rintro x hx
 have hl : (zA5 x).size = x.length := zAJ x
 repeat' first | refine zx ?_ | fail
 refine zc (fun hc => ?_) fun hc => ?_
 ·have hc : (0 : Int) < ((zA5 x).size : Int) := of_decide_eq_true hc
  have hpos : 0 < x.length := by omega
  have hne : x ≠ [] := List.length_pos_iff.1 hpos
  refine zy ?_ ?_
  ·rw [hl]
   (dsimp only [zBh]; (repeat' first | exact trivial | assumption | exact Nat.le_of_ble_eq_true rfl | apply And.intro | exact zAm _ _ ‹_› | exact zAi _ _ ‹_› | (intro hh_; have hg_ := hh_; (try simp only [zAr, zAs, decide_eq_true_eq, decide_eq_false_iff_not] at hg_)) | intro _ | exact rfl | omega))
  obtain ⟨a, ha⟩ : ∃ a, x.getD 0 0 = a := ⟨_, rfl⟩
  have ha' : (zA5 x).data.toList.getD (Int.toNat 0) 0 = a := ha
  rw [ha']
  refine zx ?_
  refine zc (fun hc => ?_) fun hc => ?_
  ·have hc : ((a.toNat : Int)) < 128 := of_decide_eq_true hc
   have v1 := zJj hne (by rw [ha]; omega)
   refine zy ?_ ?_
   ·rw [hl]
    (dsimp only [zBh]; (repeat' first | exact trivial | assumption | exact Nat.le_of_ble_eq_true rfl | apply And.intro | exact zAm _ _ ‹_› | exact zAi _ _ ‹_› | (intro hh_; have hg_ := hh_; (try simp only [zAr, zAs, decide_eq_true_eq, decide_eq_false_iff_not] at hg_)) | intro _ | exact rfl | omega))
   rw [zCt x (Int.toNat 1), show x.drop (Int.toNat 1) = x.drop 1 from rfl]
   have hyl : (x.drop 1).length = x.length - 1 := List.length_drop
   generalize x.drop 1 = y at *
   have hly : (zA5 y).size = y.length := zAJ y
   repeat' apply zn
   refine zAa (zzx hnt rfl ?_ (callG rfl rfl rfl rfl rfl rfl hnt rfl (fun hq => ?_) (fun hq => zH8 y (by have h := of_decide_eq_true hq; omega)) (zzx hnt rfl ?_ (Lex.nil _)))) ?_
   ·exact zzt
   ·exact zzt
   ·exact zzt
   refine zc (fun hc => ?_) fun hc => ?_
   ·have h8 : 8 < y.length := by
     cases h : decide ((8 : Int) < ((zA5 y).size : Int)) with
     | true => have := of_decide_eq_true h; omega
     | false => rw [h] at hc; cases hc
    have hz : hiz (wdQ y) := zO0 (by
     cases h : decide ((8 : Int) < ((zA5 y).size : Int)) with
     | true => rw [h] at hc; exact hc
     | false => rw [h] at hc; cases hc)
    clear hc
    have v2 := zLy (Nat.le_of_lt h8) hz
    refine zy ?_ ?_
    ·rw [hly]
     (dsimp only [zBh]; (repeat' first | exact trivial | assumption | exact Nat.le_of_ble_eq_true rfl | apply And.intro | exact zAm _ _ ‹_› | exact zAi _ _ ‹_› | (intro hh_; have hg_ := hh_; (try simp only [zAr, zAs, decide_eq_true_eq, decide_eq_false_iff_not] at hg_)) | intro _ | exact rfl | omega))
    rw [zCt y (Int.toNat 8), show y.drop (Int.toNat 8) = y.drop 8 from rfl]
    have hul : (y.drop 8).length = y.length - 8 := List.length_drop
    generalize y.drop 8 = u at *
    have hlu : (zA5 u).size = u.length := zAJ u
    repeat' apply zn
    refine zAK (T := tab) tOk hnt zAO (zA2 (T := tab) rfl ?_ (zEF rfl rfl rfl rfl rfl rfl rfl rfl (fun hq => ?_) (fun hq => zH8 u (by have h := of_decide_eq_true hq; omega)) (zA2 (T := tab) rfl ?_ (zEF rfl rfl rfl rfl rfl rfl rfl rfl (fun hq => ?_) (fun hq => zH7 u 8 (by have h := of_decide_eq_true hq; rw [List.length_drop]; omega)) (zA2 (T := tab) rfl ?_ (.nil _)))))) (by decide +kernel) ?_
    ·exact zzt
    ·exact zzt
    ·rw [hlu]
     (dsimp only [zBh]; (repeat' first | exact trivial | assumption | exact Nat.le_of_ble_eq_true rfl | apply And.intro | exact zAm _ _ ‹_› | exact zAi _ _ ‹_› | (intro hh_; have hg_ := hh_; (try simp only [zAr, zAs, decide_eq_true_eq, decide_eq_false_iff_not] at hg_)) | intro _ | exact rfl | omega))
    ·exact zzt
    ·exact zzt
    refine zc (fun hc => ?_) fun hc => ?_
    ·obtain ⟨h16, hz2⟩ := zRO hc
     have hz2 := zMm hz2
     clear hc
     have v3 := zGt (x := u) 2 (by omega) (fun i hi => match i, hi with | 0, _ => hz2.1 | 1, _ => hz2.2)
     refine zy ?_ ?_
     ·rw [hlu]
      (dsimp only [zBh]; (repeat' first | exact trivial | assumption | exact Nat.le_of_ble_eq_true rfl | apply And.intro | exact zAm _ _ ‹_› | exact zAi _ _ ‹_› | (intro hh_; have hg_ := hh_; (try simp only [zAr, zAs, decide_eq_true_eq, decide_eq_false_iff_not] at hg_)) | intro _ | exact rfl | omega))
     rw [zCt u (Int.toNat 16), show u.drop (Int.toNat 16) = u.drop 16 from rfl]
     have hsl : (u.drop 16).length = u.length - 16 := List.length_drop
     have v3 : vld (u.drop 16) = vld u := v3
     generalize u.drop 16 = s at *
     repeat' apply zn
     refine zAx (σ := Byt) (fun z => St.of [(0, .one (.e (eT z))), ((1000000 + 5), .one (.eptr fsE)), ((1000000 + 6), .one (.eptr acE))] []) (fun z => vld z = vld l /\ z.length < x.length) (fun z => z.length) (s) (zAh (ad := []) ⟨zzl, zzl, zzl, trivial⟩ trivial) ⟨(v3.trans v2).trans (v1.trans hx), by omega⟩ ?_
     rintro z ⟨hz, hzl⟩
     have hlz : (zA5 z).size = z.length := zAJ z
     repeat' apply zn
     refine zAK (T := tab) tOk hnt zAO (zA2 (T := tab) rfl ?_ (zEF rfl rfl rfl rfl rfl rfl rfl rfl (fun hq => ?_) (fun hq => zH8 z (by have h := of_decide_eq_true hq; omega)) (zA2 (T := tab) rfl ?_ (zEF rfl rfl rfl rfl rfl rfl rfl rfl (fun hq => ?_) (fun hq => zH7 z 8 (by have h := of_decide_eq_true hq; rw [List.length_drop]; omega)) (zA2 (T := tab) rfl ?_ (zEF rfl rfl rfl rfl rfl rfl rfl rfl (fun hq => ?_) (fun hq => zH7 z 16 (by have h := of_decide_eq_true hq; rw [List.length_drop]; omega)) (zA2 (T := tab) rfl ?_ (zEF rfl rfl rfl rfl rfl rfl rfl rfl (fun hq => ?_) (fun hq => zH7 z 24 (by have h := of_decide_eq_true hq; rw [List.length_drop]; omega)) (zA2 (T := tab) rfl ?_ (.nil _)))))))))) (by decide +kernel) ?_
     ·exact zzt
     ·exact zzt
     ·rw [hlz]
      (dsimp only [zBh]; (repeat' first | exact trivial | assumption | exact Nat.le_of_ble_eq_true rfl | apply And.intro | exact zAm _ _ ‹_› | exact zAi _ _ ‹_› | (intro hh_; have hg_ := hh_; (try simp only [zAr, zAs, decide_eq_true_eq, decide_eq_false_iff_not] at hg_)) | intro _ | exact rfl | omega))
     ·exact zzt
     ·rw [hlz]
      (dsimp only [zBh]; (repeat' first | exact trivial | assumption | exact Nat.le_of_ble_eq_true rfl | apply And.intro | exact zAm _ _ ‹_› | exact zAi _ _ ‹_› | (intro hh_; have hg_ := hh_; (try simp only [zAr, zAs, decide_eq_true_eq, decide_eq_false_iff_not] at hg_)) | intro _ | exact rfl | omega))
     ·exact zzt
     ·rw [hlz]
      (dsimp only [zBh]; (repeat' first | exact trivial | assumption | exact Nat.le_of_ble_eq_true rfl | apply And.intro | exact zAm _ _ ‹_› | exact zAi _ _ ‹_› | (intro hh_; have hg_ := hh_; (try simp only [zAr, zAs, decide_eq_true_eq, decide_eq_false_iff_not] at hg_)) | intro _ | exact rfl | omega))
     ·exact zzt
     ·exact zzt
     refine zc (fun hc => ?_) fun hc => ?_
     ·obtain ⟨h32, hz4⟩ := zRO hc
      have hz4 := zQN hz4
      clear hc
      have v4 := zGt (x := z) 4 (by omega) (fun i hi => match i, hi with | 0, _ => hz4.1.1 | 1, _ => hz4.1.2 | 2, _ => hz4.2.1 | 3, _ => hz4.2.2)
      refine zy ?_ ?_
      ·rw [hlz]
       (dsimp only [zBh]; (repeat' first | exact trivial | assumption | exact Nat.le_of_ble_eq_true rfl | apply And.intro | exact zAm _ _ ‹_› | exact zAi _ _ ‹_› | (intro hh_; have hg_ := hh_; (try simp only [zAr, zAs, decide_eq_true_eq, decide_eq_false_iff_not] at hg_)) | intro _ | exact rfl | omega))
      rw [zCt z (Int.toNat 32), show z.drop (Int.toNat 32) = z.drop 32 from rfl]
      have hsl : (z.drop 32).length = z.length - 32 := List.length_drop
      have v4 : vld (z.drop 32) = vld z := v4
      generalize z.drop 32 = q at *
      repeat' apply zn
      refine ⟨q, ?_, ?_, zAh (ad := []) zzi trivial⟩
      ·exact ⟨v4.trans hz, by omega⟩
      ·omega
     refine zAt ?_
     repeat' apply zn
     refine zAt ?_
     refine ⟨z, ?_, ?_, zAh (ad := []) zzi trivial⟩
     ·exact hz
     ·exact hzl
    repeat' apply zn
    refine zAt ?_
    refine ⟨u, ?_, ?_, zAh (ad := []) zzi trivial⟩
    ·exact v2.trans (v1.trans hx)
    ·omega
   repeat' apply zn
   refine zAt ?_
   refine ⟨y, ?_, ?_, zAh (ad := []) zzi trivial⟩
   ·exact v1.trans hx
   ·omega
  have hc : ¬ ((a.toNat : Int)) < 128 := of_decide_eq_false hc
  have hst : zHp x = if sz a = 2 then (if zTb x = true then none else some 2) else if sz a = 3 then (if zTa x = true then none else some 3) else if sz a = 4 then (if zS9 x = true then none else some 4) else none := by
   unfold zHp
   rw [ha, if_neg (by omega)]
  have hv := zLz hne
  have al := a.toNat_lt
  have f1 := zRV a
  have f2 := zUO a
  refine zy ?_ ?_
  ·(dsimp only [zBh]; (repeat' first | exact trivial | assumption | exact Nat.le_of_ble_eq_true rfl | apply And.intro | exact zAm _ _ ‹_› | exact zAi _ _ ‹_› | (intro hh_; have hg_ := hh_; (try simp only [zAr, zAs, decide_eq_true_eq, decide_eq_false_iff_not] at hg_)) | intro _ | exact rfl | omega))
  rw [zVE a]
  clear f1 f2
  refine zx ?_
  rw [zSj a]
  obtain ⟨g1, g2, g3⟩ := zWy a
  have g4 : (Cs.es (List.take 2 (List.drop 0 (List.drop (Int.toNat (Int.fdiv (tb a : Int) (2 ^ min (Int.toNat 4) IntKind.u8.bits)) * 2) acE)))).len = 2 := congrArg List.length (zR6 a)
  have g5 : 0 + 2 <= (Cs.es (List.drop (Int.toNat (Int.fdiv (tb a : Int) (2 ^ min (Int.toNat 4) IntKind.u8.bits)) * 2) acE)).len := by
   have : (List.take 2 (List.drop (Int.toNat (Int.fdiv (tb a : Int) (2 ^ min (Int.toNat 4) IntKind.u8.bits)) * 2) acE)).length = 2 := g4
   rw [List.length_take] at this
   show 0 + 2 <= List.length _
   omega
  refine zy ?_ ?_
  ·(dsimp only [zBh]; (repeat' first | exact trivial | assumption | exact Nat.le_of_ble_eq_true rfl | apply And.intro | exact zAm _ _ ‹_› | exact zAi _ _ ‹_› | (intro hh_; have hg_ := hh_; (try simp only [zAr, zAs, decide_eq_true_eq, decide_eq_false_iff_not] at hg_)) | intro _ | exact rfl | omega))
  rw [zR6 a]
  clear g1 g2 g3 g4 g5
  refine zx ?_
  refine zx ?_
  refine zc (fun hc => ?_) fun hc => ?_
  ·have hc : sz a = 2 := by have := of_decide_eq_true hc; omega
   rw [if_pos hc] at hst
   have hx1 : (zA5 x).data.toList = x := zDT x
   refine zy ?_ ?_
   ·rw [hl]
    (dsimp only [zBh]; (repeat' first | exact trivial | assumption | exact Nat.le_of_ble_eq_true rfl | apply And.intro | exact zAm _ _ ‹_› | exact zAi _ _ ‹_› | (intro hh_; have hg_ := hh_; (try simp only [zAr, zAs, decide_eq_true_eq, decide_eq_false_iff_not] at hg_)) | intro _ | exact rfl | omega))
   refine zc (fun hc => ?_) fun hc => ?_
   ·have hb : zTb x = true := by unfold zTb bI; rw [ha, <-hx1, <-zAJ]; exact hc
    rw [if_pos hb] at hst
    rw [<-hx, hv, hst]
    repeat' first | refine zx ?_ | apply zn
    exact zAb ⟨.inr rfl, _, _, rfl, trivial, rfl⟩
   have hb : zTb x = false := by unfold zTb bI; rw [ha, <-hx1, <-zAJ]; exact hc
   have hlen : 2 <= x.length := by
    unfold zTb at hb
    simp only [zAr, decide_eq_false_iff_not] at hb
    omega
   rw [if_neg (by rw [hb]; exact Bool.false_ne_true)] at hst
   refine zy ?_ ?_
   ·rw [hl]
    (dsimp only [zBh]; (repeat' first | exact trivial | assumption | exact Nat.le_of_ble_eq_true rfl | apply And.intro | exact zAm _ _ ‹_› | exact zAi _ _ ‹_› | (intro hh_; have hg_ := hh_; (try simp only [zAr, zAs, decide_eq_true_eq, decide_eq_false_iff_not] at hg_)) | intro _ | exact rfl | omega))
   rw [zCt x (Int.toNat 2), show x.drop (Int.toNat 2) = x.drop 2 from rfl]
   rw [hst] at hv
   have hv : vld x = vld (x.drop 2) := hv
   repeat' apply zn
   refine ⟨(x.drop 2), ?_, ?_, zAh (ad := []) zzi trivial⟩
   ·exact hv.symm.trans hx
   ·rw [List.length_drop]; omega
  have hc2 : ¬ sz a = 2 := fun e => absurd (of_decide_eq_false hc) (fun h => h (by omega))
  refine zx ?_
  refine zc (fun hc => ?_) fun hc => ?_
  ·have hc : sz a = 3 := by have := of_decide_eq_true hc; omega
   rw [if_neg hc2, if_pos hc] at hst
   have hx1 : (zA5 x).data.toList = x := zDT x
   refine zy ?_ ?_
   ·rw [hl]
    (dsimp only [zBh]; (repeat' first | exact trivial | assumption | exact Nat.le_of_ble_eq_true rfl | apply And.intro | exact zAm _ _ ‹_› | exact zAi _ _ ‹_› | (intro hh_; have hg_ := hh_; (try simp only [zAr, zAs, decide_eq_true_eq, decide_eq_false_iff_not] at hg_)) | intro _ | exact rfl | omega))
   refine zc (fun hc => ?_) fun hc => ?_
   ·have hb : zTa x = true := by unfold zTa bI; rw [ha, <-hx1, <-zAJ]; exact hc
    rw [if_pos hb] at hst
    rw [<-hx, hv, hst]
    repeat' first | refine zx ?_ | apply zn
    exact zAb ⟨.inr rfl, _, _, rfl, trivial, rfl⟩
   have hb : zTa x = false := by unfold zTa bI; rw [ha, <-hx1, <-zAJ]; exact hc
   have hlen : 3 <= x.length := by
    unfold zTa at hb
    simp only [zAr, decide_eq_false_iff_not] at hb
    omega
   rw [if_neg (by rw [hb]; exact Bool.false_ne_true)] at hst
   refine zy ?_ ?_
   ·rw [hl]
    (dsimp only [zBh]; (repeat' first | exact trivial | assumption | exact Nat.le_of_ble_eq_true rfl | apply And.intro | exact zAm _ _ ‹_› | exact zAi _ _ ‹_› | (intro hh_; have hg_ := hh_; (try simp only [zAr, zAs, decide_eq_true_eq, decide_eq_false_iff_not] at hg_)) | intro _ | exact rfl | omega))
   rw [zCt x (Int.toNat 3), show x.drop (Int.toNat 3) = x.drop 3 from rfl]
   rw [hst] at hv
   have hv : vld x = vld (x.drop 3) := hv
   repeat' apply zn
   refine ⟨(x.drop 3), ?_, ?_, zAh (ad := []) zzi trivial⟩
   ·exact hv.symm.trans hx
   ·rw [List.length_drop]; omega
  have hc3 : ¬ sz a = 3 := fun e => absurd (of_decide_eq_false hc) (fun h => h (by omega))
  refine zx ?_
  refine zc (fun hc => ?_) fun hc => ?_
  ·have hc : sz a = 4 := by have := of_decide_eq_true hc; omega
   rw [if_neg hc2, if_neg hc3, if_pos hc] at hst
   have hx1 : (zA5 x).data.toList = x := zDT x
   refine zy ?_ ?_
   ·rw [hl]
    (dsimp only [zBh]; (repeat' first | exact trivial | assumption | exact Nat.le_of_ble_eq_true rfl | apply And.intro | exact zAm _ _ ‹_› | exact zAi _ _ ‹_› | (intro hh_; have hg_ := hh_; (try simp only [zAr, zAs, decide_eq_true_eq, decide_eq_false_iff_not] at hg_)) | intro _ | exact rfl | omega))
   refine zc (fun hc => ?_) fun hc => ?_
   ·have hb : zS9 x = true := by unfold zS9 bI; rw [ha, <-hx1, <-zAJ]; exact hc
    rw [if_pos hb] at hst
    rw [<-hx, hv, hst]
    repeat' first | refine zx ?_ | apply zn
    exact zAb ⟨.inr rfl, _, _, rfl, trivial, rfl⟩
   have hb : zS9 x = false := by unfold zS9 bI; rw [ha, <-hx1, <-zAJ]; exact hc
   have hlen : 4 <= x.length := by
    unfold zS9 at hb
    simp only [zAr, decide_eq_false_iff_not] at hb
    omega
   rw [if_neg (by rw [hb]; exact Bool.false_ne_true)] at hst
   refine zy ?_ ?_
   ·rw [hl]
    (dsimp only [zBh]; (repeat' first | exact trivial | assumption | exact Nat.le_of_ble_eq_true rfl | apply And.intro | exact zAm _ _ ‹_› | exact zAi _ _ ‹_› | (intro hh_; have hg_ := hh_; (try simp only [zAr, zAs, decide_eq_true_eq, decide_eq_false_iff_not] at hg_)) | intro _ | exact rfl | omega))
   rw [zCt x (Int.toNat 4), show x.drop (Int.toNat 4) = x.drop 4 from rfl]
   rw [hst] at hv
   have hv : vld x = vld (x.drop 4) := hv
   repeat' apply zn
   refine ⟨(x.drop 4), ?_, ?_, zAh (ad := []) zzi trivial⟩
   ·exact hv.symm.trans hx
   ·rw [List.length_drop]; omega
  have hc4 : ¬ sz a = 4 := fun e => absurd (of_decide_eq_false hc) (fun h => h (by omega))
  rw [if_neg hc2, if_neg hc3, if_neg hc4] at hst
  rw [<-hx, hv, hst]
  repeat' first | refine zx ?_ | apply zn
  exact zAb ⟨.inr rfl, _, _, rfl, trivial, rfl⟩
 refine zAt ?_
 have hc : ¬ (0 : Int) < ((zA5 x).size : Int) := of_decide_eq_false hc
 obtain rfl : x = [] := List.eq_nil_of_length_eq_zero (by omega)
 rw [<-hx, zSc]
 repeat' first | refine zx ?_ | apply zn
 exact zAb ⟨.inr rfl, _, _, rfl, trivial, rfl⟩
end Go.Proofs.YtcdifgacoleckaaGreatDoor
namespace Go.Proofs.YtcdifgacoleckaaGreatDoor.Ab
open Go
def rgF (n : Nat) : Nat := n % 9223372036854775808
def ngF (n : Nat) : Bool := n / 9223372036854775808 % 2 == 1
def rkF (n : Nat) : Int := if ngF n = true then -(rgF n : Int) else (rgF n : Int)
def zGk : Nat := 9218868437227405312
def bnd : Nat := 4503599627370496
def zLC (r : Nat) : Nat := if r < bnd then r else (bnd + r % bnd) * 2 ^ (r / bnd - 1)
theorem zPy : 0 < bnd := by decide
theorem zEW {r s : Nat} (h : r < s) : zLC r < zLC s := by
 have hB := zPy
 unfold zLC
 by_cases hs : s < bnd
 ·rw [if_pos hs, if_pos (by omega)]; exact h
 rw [if_neg hs]
 have h1 : 0 < 2 ^ (s / bnd - 1) := Nat.two_pow_pos _
 by_cases hr : r < bnd
 ·rw [if_pos hr]
  have : bnd * 1 <= (bnd + s % bnd) * 2 ^ (s / bnd - 1) := Nat.mul_le_mul (by omega) h1
  omega
 rw [if_neg hr]
 have q1 : 1 <= r / bnd := (Nat.le_div_iff_mul_le hB).2 (by omega)
 have q2 : r / bnd <= s / bnd := Nat.div_le_div_right (by omega)
 have er := Nat.div_add_mod r bnd
 have es := Nat.div_add_mod s bnd
 have lr := Nat.mod_lt r hB
 rcases Nat.lt_or_eq_of_le q2 with q | q
 ·have e1 : (bnd + r % bnd) * 2 ^ (r / bnd - 1) < (2 * bnd) * 2 ^ (r / bnd - 1) := Nat.mul_lt_mul_of_pos_right (by omega) (Nat.two_pow_pos _)
  have e2 : (2 * bnd) * 2 ^ (r / bnd - 1) = bnd * 2 ^ (r / bnd) := by
   rw [show r / bnd = (r / bnd - 1) + 1 by omega, Nat.add_sub_cancel, Nat.pow_succ, Nat.mul_comm 2 bnd, Nat.mul_assoc, Nat.mul_comm 2]
  have e3 : bnd * 2 ^ (r / bnd) <= (bnd + s % bnd) * 2 ^ (s / bnd - 1) := Nat.mul_le_mul (by omega) (Nat.pow_le_pow_right (by decide) (by omega))
  omega
 ·rw [q]
  rw [q] at er
  exact Nat.mul_lt_mul_of_pos_right (by omega) h1
theorem zN0 : zLC 0 = 0 := by unfold zLC; rw [if_pos zPy]
theorem zN1 {r s : Nat} : zLC r < zLC s ↔ r < s :=
 ⟨fun h => Nat.lt_of_not_le fun hle => by
  rcases Nat.lt_or_eq_of_le hle with q | q
  ·have := zEW q; omega
  ·rw [q] at h; omega, zEW⟩
theorem zIc {r s : Nat} : zLC r = zLC s ↔ r = s :=
 ⟨fun h => by
  rcases Nat.lt_trichotomy r s with q | q | q
  ·have := zEW q; omega
  ·exact q
  ·have := zEW q; omega, fun h => by rw [h]⟩
theorem zKh {x y x' y' : Int} (h1 : x < y ↔ x' < y') (h2 : x = y ↔ x' = y') : compare x y = compare x' y' := by
 show compareOfLessAndEq x y = compareOfLessAndEq x' y'
 unfold compareOfLessAndEq
 by_cases a : x < y
 ·rw [if_pos a, if_pos (h1.1 a)]
 ·rw [if_neg a, if_neg (fun h => a (h1.2 h))]
  by_cases b : x = y
  ·rw [if_pos b, if_pos (h2.1 b)]
  ·rw [if_neg b, if_neg (fun h => b (h2.2 h))]
def sgF (s : Bool) (n : Nat) : Int := if s = true then -(n : Int) else (n : Int)
theorem zJt (s : Bool) (m k : Nat) : Ieee.signed s m k = sgF s (m * 2 ^ k) := by
 unfold Ieee.signed sgF
 rw [Nat.shiftLeft_eq]
theorem zRu (s : Bool) (n k : Nat) : sgF s n * (2 ^ k : Nat) = sgF s (n * 2 ^ k) := by
 unfold sgF
 cases s with
 | true => simp only [if_true]; rw [Int.neg_mul, Int.natCast_mul]
 | false => simp only [Bool.false_eq_true, if_false]; rw [Int.natCast_mul]
theorem zPn (x y : Int) (k : Nat) : compare x y = compare (x * (2 ^ k : Nat)) (y * (2 ^ k : Nat)) := by
 have hp : (0 : Int) < ((2 ^ k : Nat) : Int) := Int.natCast_pos.2 (Nat.two_pow_pos k)
 exact zKh ⟨fun h => Int.mul_lt_mul_of_pos_right h hp, fun h => Int.lt_of_mul_lt_mul_right h (Int.le_of_lt hp)⟩ ⟨fun h => by rw [h], fun h => Int.eq_of_mul_eq_mul_right (Int.ne_of_gt hp) h⟩
theorem zGe {n : Nat} (h : rgF n < zGk) : ∃ m i, Ieee.double.read n = .number (ngF n) m i /\ -1074 <= i /\ m * 2 ^ (i + 1074).toNat = zLC (rgF n) := by
 have hr : Ieee.double.read n = (if rgF n < bnd then .number (ngF n) (rgF n) (-1074) else if rgF n < zGk then .number (ngF n) (bnd + rgF n % bnd) (-1074 + (rgF n / bnd - 1 : Nat)) else if rgF n = zGk then .infinity (ngF n) else .nan (ngF n) (rgF n - zGk)) := rfl
 rw [hr]
 by_cases hb : rgF n < bnd
 ·rw [if_pos hb]
  refine ⟨_, _, rfl, Int.le_refl _, ?_⟩
  unfold zLC
  rw [if_pos hb]
  simp
 ·rw [if_neg hb, if_pos h]
  refine ⟨_, _, rfl, by omega, ?_⟩
  unfold zLC
  rw [if_neg hb, show (-1074 + ((rgF n / bnd - 1 : Nat) : Int) + 1074).toNat = rgF n / bnd - 1 by omega]
theorem zGd {n : Nat} (h : rgF n = zGk) : Ieee.double.read n = .infinity (ngF n) := by
 have hr : Ieee.double.read n = (if rgF n < bnd then .number (ngF n) (rgF n) (-1074) else if rgF n < zGk then .number (ngF n) (bnd + rgF n % bnd) (-1074 + (rgF n / bnd - 1 : Nat)) else if rgF n = zGk then .infinity (ngF n) else .nan (ngF n) (rgF n - zGk)) := rfl
 rw [hr, if_neg (by rw [h]; decide), if_neg (by omega), if_pos h]
theorem zL0 {n : Nat} (h : zGk < rgF n) : Ieee.double.read n = .nan (ngF n) (rgF n - zGk) := by
 have hr : Ieee.double.read n = (if rgF n < bnd then .number (ngF n) (rgF n) (-1074) else if rgF n < zGk then .number (ngF n) (bnd + rgF n % bnd) (-1074 + (rgF n / bnd - 1 : Nat)) else if rgF n = zGk then .infinity (ngF n) else .nan (ngF n) (rgF n - zGk)) := rfl
 have hb : bnd < zGk := by decide
 rw [hr, if_neg (by omega), if_neg (by omega), if_neg (by omega)]
theorem zNb (n : Nat) : rkF n = sgF (ngF n) (rgF n) := rfl
theorem zTV (s t : Bool) (a b : Nat) : compare (sgF s (zLC a)) (sgF t (zLC b)) = compare (sgF s a) (sgF t b) := by
 have h1 := @zN1 a b
 have h2 := @zN1 b a
 have h3 := @zIc a b
 have h4 := @zIc a 0
 have h5 := @zIc b 0
 rw [zN0] at h4 h5
 unfold sgF
 cases s <;> cases t <;> simp only [if_true, Bool.false_eq_true, if_false] <;> exact zKh (by omega) (by omega)
theorem zQt {a b : Nat} (ha : rgF a < zGk) (hb : rgF b < zGk) : Ieee.double.order a b = some (compare (rkF a) (rkF b)) := by
 obtain ⟨m, i, e1, e2, e3⟩ := zGe ha
 obtain ⟨n, j, f1, f2, f3⟩ := zGe hb
 unfold Ieee.Format.order
 rw [e1, f1]
 show some (compare (Ieee.signed (ngF a) m (i - min i j).toNat) (Ieee.signed (ngF b) n (j - min i j).toNat)) = _
 rw [zJt, zJt, zPn _ _ (min i j + 1074).toNat, zRu, zRu, Nat.mul_assoc, Nat.mul_assoc, <-Nat.pow_add, <-Nat.pow_add,
  show (i - min i j).toNat + (min i j + 1074).toNat = (i + 1074).toNat by omega, show (j - min i j).toNat + (min i j + 1074).toNat = (j + 1074).toNat by omega, e3, f3, zTV]
 rfl
theorem zWM {a b : Nat} (ha : rgF a <= zGk) (hb : rgF b <= zGk) : Ieee.double.order a b = some (compare (rkF a) (rkF b)) := by
 rcases Nat.lt_or_eq_of_le ha with ha | ha
 ·rcases Nat.lt_or_eq_of_le hb with hb | hb
  ·exact zQt ha hb
  ·obtain ⟨m, i, e1, _, _⟩ := zGe ha
   unfold Ieee.Format.order
   rw [e1, zGd hb, zNb, zNb, hb]
   show some (if ngF b = true then Ordering.gt else .lt) = _
   congr 1
   show _ = compareOfLessAndEq _ _
   unfold compareOfLessAndEq sgF
   cases ngF a <;> cases ngF b <;> simp only [if_true, Bool.false_eq_true, if_false]
   ·rw [if_pos (by omega)]
   ·rw [if_neg (by omega), if_neg (by omega)]
   ·rw [if_pos (by omega)]
   ·rw [if_neg (by omega), if_neg (by omega)]
 ·rcases Nat.lt_or_eq_of_le hb with hb | hb
  ·obtain ⟨m, i, e1, _, _⟩ := zGe hb
   unfold Ieee.Format.order
   rw [e1, zGd ha, zNb, zNb, ha]
   show some (if ngF a = true then Ordering.lt else .gt) = _
   congr 1
   show _ = compareOfLessAndEq _ _
   unfold compareOfLessAndEq sgF
   cases ngF a <;> cases ngF b <;> simp only [if_true, Bool.false_eq_true, if_false]
   ·rw [if_neg (by omega), if_neg (by omega)]
   ·rw [if_neg (by omega), if_neg (by omega)]
   ·rw [if_pos (by omega)]
   ·rw [if_pos (by omega)]
  ·unfold Ieee.Format.order
   rw [zGd ha, zGd hb, zNb, zNb, ha, hb]
   cases ngF a <;> cases ngF b <;> rfl
theorem zQs {a b : Nat} (h : zGk < rgF a \/ zGk < rgF b) : Ieee.double.order a b = none := by
 unfold Ieee.Format.order
 rcases h with h | h
 ·rw [zL0 h]
  rfl
 ·rw [zL0 h]
  cases Ieee.double.read a <;> rfl
end Go.Proofs.YtcdifgacoleckaaGreatDoor.Ab
