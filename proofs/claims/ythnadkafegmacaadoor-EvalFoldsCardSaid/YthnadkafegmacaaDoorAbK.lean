/- Calls that lend, under a guard that is known; a part of a variable told as data. No condition. -/
import Derived.Test.YthnadkafegmacaaDoorAbJ
import Derived.Test.YthnadkafegmacaaDoorAbZ
namespace Go.Proofs.YthnadkafegmacaaDoor.Ab
open Go Go.RowKit
section
variable {P : Program} {X : Ctx}
theorem opT_true {ops : Array Oper} {s s' : St} {o : Oper} {q : Prop} (hgd : gdOf ops s o = .iff q) (hq : q) (h : OpT P X ops { o with guard := none } s s') : OpT P X ops o s s' := by
  intro Q a w hR0
  have hR0' := hR0
  obtain ⟨μ, hM, hsz, hdf, hr⟩ := hR0
  rw [if_pos ((gd_iff hgd hr).2 hq)]
  have := h Q a w hR0'
  rw [if_pos (by simp [Region.wanted])] at this
  exact this
/-- a call that lends what it names, under a guard that holds -/
theorem callHT (L K A : List (Nat × Nat)) {gs : List (Nat × List E)} {nt : Nat} {ops : Array Oper} {o : Oper} {rest : List Oper} {tm : Nat → D} {m : Mem} {fo : Operand} {f : Nat} {caps : List (Nat × Nat × Nat)} {args : Array Operand} {ts : Array TypeId} {as : List D} {us : Upds} {r : D} {ms ms' : List (Nat × Blk)} {s'' : St} {q : Prop} {ns : List Prop} (hop : o.op = .call ⟨.value fo, args, ts⟩) (hgd : gdOf ops ⟨tm, m⟩ o = .iff q) (hq : q) (hfo : ((⟨tm, m⟩ : St).ev fo).strip = .one (.clo f caps)) (hcap : capOk m caps = true)
    (hfn : FnH P f gs ms as r ms') (has : ArgsH m (rnIn m (L ++ K)) (fun c => isS (lookM ms c)) ((args.toList.map fun x => ((⟨tm, m⟩ : St).ev x).strip) ++ capD caps) as us) (hver : ∀ i, verOf (updM m us) i = verOf m i) (hns : needL ⟨tm, m⟩ (fo :: args.toList) = ns) (hn : AllP ns) (hd : dstOk nt o.dst = true) (hnt : X.nt = nt) (hgl : gs.map (fun x => tm (1000000 + x.1)) = gs.map fun x => .one (.eptr x.2))
    (hids : okIds ms ms' L K A = true) (hin : InOk (updM m us) ms (rnIn m (L ++ K)) (L ++ K)) (hsh : ShOk ms ms' L) (k : Lex P X ops rest ⟨putO tm o.dst (r.rn (rnOut (updM m us) L A)), memH (updM m us) ms' L K A⟩ s'') : Lex P X ops (o :: rest) ⟨tm, m⟩ s'' := by
  have e : rnIn m (L ++ K) = rnIn (updM m us) (L ++ K) := by
    funext c
    unfold rnIn
    split
    · rw [hver]
    · rfl
  rw [e] at has hin
  rw [updM_eq] at has hin k
  exact .cons (opT_true hgd hq (opT_callH (s := ⟨tm, m⟩) (o := { o with guard := none }) L K A hop (by unfold gdOf; rfl) hfo hcap has (fun p hp => by rw [hns] at hp; exact allP_mem hn p hp) (glob_of hgl) hfn hids hin hsh (by show dstOk X.nt o.dst = true; rw [hnt]; exact hd))) k
/-- an operation under a guard that doesn't hold -/
theorem skipG (r : D) {nt : Nat} {ops : Array Oper} {o : Oper} {rest : List Oper} {tm : Nat → D} {m : Mem} {s'' : St} {q : Prop} {t : Nat} (hgd : gdOf ops ⟨tm, m⟩ o = .iff q) (hq : ¬ q) (hd : o.dst = some t) (hlt : Nat.blt t nt = true) (hnt : X.nt = nt) (k : Lex P X ops rest ⟨upd tm t (.gd q r), m⟩ s'') : Lex P X ops (o :: rest) ⟨tm, m⟩ s'' := by
  have h := opT_guard (P := P) (X := X) (r := r) hgd (by rw [hd, hnt]; exact hlt) fun h => absurd h hq
  rw [hd] at h
  exact .cons h k
/-- an own variable whose first cell is a part that is written no more: that cell is told as data -/
theorem le_box1 {s : St} (id : Nat) {ver pub : Nat} {x0 : D0} {rest : List D0} {e0 : E} {us : Upds} (hm : s.mem id = some ⟨ver, .box (.ds (x0 :: rest)), pub⟩) (hf : frz s.mem x0 = some (e0, us)) (hn : us.all (fun u => !Nat.beq u.1 id) = true) :
    Le X s ⟨s.tm, upd (updM s.mem us) id (some ⟨ver, .box (.ds (.e e0 :: rest)), pub⟩)⟩ := by
  rw [updM_eq]
  intro a w ⟨μ, hM, hsz, hdf, hr⟩
  obtain ⟨r1, r2, r3, r4⟩ := RM.pubs us s.mem hM (frz_ok hf)
  let M := appU s.mem us
  have hid : M id = some ⟨ver, .box (.ds (x0 :: rest)), pub⟩ := by
    rw [← hm]
    refine r4 id fun u hu e => ?_
    have := List.all_eq_true.1 hn u hu
    rw [e, Nat.beq_refl] at this
    cases this
  have hrep : ∀ vs, Rep2 ⟨M, μ⟩ (CW X ⟨M, μ⟩ w) w (x0 :: rest) vs → Rep2 ⟨M, μ⟩ (CW X ⟨M, μ⟩ w) w (D0.e e0 :: rest) vs := fun vs h => ⟨h.1, fun i x u hx hu => by
    cases i with
    | zero =>
      cases hx
      exact frz_rep r1 (h.2 0 x0 u rfl hu) hf r3
    | succ i => exact h.2 (i + 1) x u hx hu⟩
  let M' : Mem := upd M id (some ⟨ver, .box (.ds (.e e0 :: rest)), pub⟩)
  have hget : ∀ id' b', M' id' = some b' → ∃ b, M id' = some b ∧ b.ver = b'.ver ∧ b.pub = b'.pub ∧ b.body.shape = b'.body.shape := fun id' b' h => by
    by_cases hi : id' = id
    · subst hi
      have h : upd M id' _ id' = some b' := h
      rw [upd_same] at h
      cases h
      exact ⟨_, hid, rfl, rfl, rfl⟩
    · have h : upd M id _ id' = some b' := h
      rw [upd_ne _ _ hi] at h
      exact ⟨b', h, rfl, rfl, rfl⟩
  have hput : ∀ id' b, M id' = some b → ∃ b', M' id' = some b' ∧ b.ver = b'.ver ∧ b.pub = b'.pub ∧ b'.body.shape = b.body.shape := fun id' b h => by
    by_cases hi : id' = id
    · subst hi
      rw [hid] at h
      cases h
      exact ⟨⟨ver, .box (.ds (.e e0 :: rest)), pub⟩, upd_same .., rfl, rfl, rfl⟩
    · exact ⟨b, by show upd M id _ id' = some b; rw [upd_ne _ _ hi]; exact h, rfl, rfl, rfl⟩
  have hC : ∀ b o u, CW X ⟨M, μ⟩ w b o u → CW X ⟨M', μ⟩ w b o u := fun b o u ⟨k1, k2, k3⟩ => ⟨k1, k2, fun ho id' b' m1 m2 => by
    obtain ⟨b0, e1, e2, e3, e4⟩ := hget id' b' m1
    rw [← e3]
    exact k3 ho id' b0 e1 m2⟩
  have hK : Kept ⟨M, μ⟩ (CW X ⟨M, μ⟩ w) w ⟨M', μ⟩ (CW X ⟨M', μ⟩ w) w := Kept.of hC (fun _ _ h => h) fun id' b h => by
    obtain ⟨b', e1, e2, e3, e4⟩ := hput id' b h
    exact ⟨b', e1, Nat.le_of_eq e2, fun _ => ⟨rfl, e4⟩⟩
  refine ⟨μ, ⟨r1.bel, fun id' b' hb => ?_⟩, hsz, hdf, fun t' => ((hr t').kept r2).kept hK⟩
  obtain ⟨b0, e1, e2, e3, e4⟩ := hget id' b' hb
  have h := r1.blk id' b0 e1
  by_cases hi : id' = id
  · subst hi
    have hb : upd M id' _ id' = some b' := hb
    rw [upd_same] at hb
    cases hb
    have e1 : M id' = some b0 := e1
    rw [hid] at e1
    cases e1
    unfold BlkOk at h ⊢
    show match μ id' with | none => _ | some g => _
    cases hg : μ id' with
    | none =>
      simp only [hg] at h ⊢
      obtain ⟨h1, h2, h3⟩ := h
      exact absurd h1 (by intro h1; cases h1)
    | some g =>
      simp only [hg] at h ⊢
      obtain ⟨_, g1, g2, g3, cur, e, lo, hi, g4, g5, g6, g7⟩ := h
      have g7 : ∀ (i : Nat) x, (x0 :: rest)[i]? = some x → ∃ u, cur[i]? = some u ∧ Rep0 ⟨M, μ⟩ (CW X ⟨M, μ⟩ w) w x u := g7
      have g6 : (x0 :: rest).length ≤ cur.size := g6
      have g3 : pub ≤ (x0 :: rest).length := g3
      have hR2 : Rep2 ⟨M, μ⟩ (CW X ⟨M, μ⟩ w) w (x0 :: rest) (cur.toList.take (x0 :: rest).length) := ⟨by have hz : cur.toList.length = cur.size := Array.length_toList; rw [List.length_take]; omega, fun i x u hx hu => by
        obtain ⟨u', h1, h2⟩ := g7 i x hx
        have hi := (List.getElem?_eq_some_iff.1 hx).1
        rw [List.getElem?_take, if_pos hi, Array.getElem?_toList, h1] at hu
        cases hu
        exact h2⟩
      have hE := hrep _ hR2
      refine ⟨trivial, g1, fun id'' b'' m1 m2 => ?_, g3, cur, e, lo, hi, g4, g5, g6, fun i x hx => ?_⟩
      · obtain ⟨b1, f1, _⟩ := hget id'' b'' m1
        exact g2 id'' b1 f1 m2
      · have hx : (D0.e e0 :: rest)[i]? = some x := hx
        have hi : i < (x0 :: rest).length := (List.getElem?_eq_some_iff.1 hx).1
        have hcu : i < cur.size := Nat.lt_of_lt_of_le hi g6
        refine ⟨cur[i], Array.getElem?_eq_getElem hcu, ?_⟩
        refine (hE.2 i x cur[i] hx ?_).kept hK
        rw [List.getElem?_take, if_pos hi, Array.getElem?_toList, Array.getElem?_eq_getElem hcu]
  · have hb : upd M id _ id' = some b' := hb
    rw [upd_ne _ _ hi] at hb
    have e1 : M id' = some b0 := e1
    rw [hb] at e1
    cases e1
    unfold BlkOk at h ⊢
    show match μ id' with | none => _ | some g => _
    cases hg : μ id' with
    | none =>
      simp only [hg] at h ⊢
      exact h
    | some g =>
      simp only [hg] at h ⊢
      obtain ⟨g0, g1, g2, g3, cur, e, lo, hi, g4, g5, g6, g7⟩ := h
      refine ⟨g0, g1, fun id'' b'' m1 m2 => ?_, g3, cur, e, lo, hi, g4, g5, g6, fun i x hx => ?_⟩
      · obtain ⟨b1, f1, _⟩ := hget id'' b'' m1
        exact g2 id'' b1 f1 m2
      · obtain ⟨u, u1, u2⟩ := g7 i x hx
        exact ⟨u, u1, u2.kept hK⟩
end
end Go.Proofs.YthnadkafegmacaaDoor.Ab
