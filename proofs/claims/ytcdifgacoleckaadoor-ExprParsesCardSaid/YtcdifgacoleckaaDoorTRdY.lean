/- Reading of expressions: the document's ground. No condition. -/
import Derived.Test.YtcdifgacoleckaaDoorTRdW
import Derived.Test.YtcdifgacoleckaaDoorTRdX
import Derived.Test.YtcdifgacoleckaaDoorTSx
namespace Go.Proofs.YtcdifgacoleckaaDoor
open Go Go.RowKit Go.Proofs.YtcdifgacoleckaaDoor.Ab
set_option linter.unusedSimpArgs false
set_option linter.unusedVariables false

def gZ : List (Nat × List E) := [(0, mkE), (1, spE), (3, fsE), (4, acE)]
theorem tkL1 {w : Byt} (h : Tks w [wtk w]) : ∀ x ∈ [w], Tks x [wtk x] := fun x hx => by rw [List.mem_singleton.1 hx]; exact h
theorem tkL2 {v w : Byt} (g : Tks v [wtk v]) (h : Tks w [wtk w]) : ∀ x ∈ [v, w], Tks x [wtk x] := fun x hx => by
  rcases List.mem_cons.1 hx with rfl | hx
  · exact g
  · rw [List.mem_singleton.1 hx]; exact h
def Pst (l : List Tok) (s : Spot) (w : Byt) (ts : List Tok) : Prop := FnG Tryd.prog 18 [(1, spE)] [.agg (.es (eSp l s)), .one (.e (eT w))] (.agg (.es (eSp l (pastF l s ts))))
theorem pstL (l : List Tok) (hm : l.length ≤ maxLen) (s : Spot) : Pst l s [40] [tokL] := past_fn l hm s [40] [[40]] fields_c (tkL1 (tk1 fields_c (by decide))) (by decide)
theorem pstR (l : List Tok) (hm : l.length ≤ maxLen) (s : Spot) : Pst l s [41] [tokR] := past_fn l hm s [41] [[41]] fields_d (tkL1 (tk1 fields_d (by decide))) (by decide)
theorem pstC (l : List Tok) (hm : l.length ≤ maxLen) (s : Spot) : Pst l s [44] [tokC] := past_fn l hm s [44] [[44]] fields_h (tkL1 (tk1 fields_h (by decide))) (by decide)
theorem pstN (l : List Tok) (hm : l.length ≤ maxLen) (s : Spot) : Pst l s [78, 79, 84] [tokN] := past_fn l hm s _ [[78, 79, 84]] fields_b (tkL1 (tk1 fields_b (by decide))) (by decide)
theorem pstM (l : List Tok) (hm : l.length ≤ maxLen) (s : Spot) : Pst l s [45] [tokM] := past_fn l hm s _ [[45]] fields_a (tkL1 (tk1 fields_a (by decide))) (by decide)
theorem pstIs (l : List Tok) (hm : l.length ≤ maxLen) (s : Spot) : Pst l s [73, 83, 32, 78, 85, 76, 76] [tokIs, tokNl] := past_fn l hm s _ [[73, 83], [78, 85, 76, 76]] fields_e (tkL2 (tk1 flIs (by decide)) (tk1 fields_i (by decide))) (by decide)
theorem pstLn (l : List Tok) (hm : l.length ≤ maxLen) (s : Spot) : Pst l s [76, 69, 78, 71, 84, 72, 32, 40] [tokLn, tokL] := past_fn l hm s _ [[76, 69, 78, 71, 84, 72], [40]] fields_f (tkL2 (tk1 flLn (by decide)) (tk1 fields_c (by decide))) (by decide)
theorem pstCo (l : List Tok) (hm : l.length ≤ maxLen) (s : Spot) : Pst l s [67, 79, 65, 76, 69, 83, 67, 69, 32, 40] [tokCo, tokL] := past_fn l hm s _ [[67, 79, 65, 76, 69, 83, 67, 69], [40]] fields_g (tkL2 (tk1 flCo (by decide)) (tk1 fields_c (by decide))) (by decide)
abbrev outX (l : List Tok) (r : Ex × Spot) : D := .tup [(true, .es (eEx r.1)), (true, .es (eSp l r.2))]
/-- the document's climb at a level and a spot -/
def Clb (l : List Tok) (lv : Nat) (s : Spot) (r : Ex × Spot) : Prop := FnG Tryd.prog 12 gZ [.agg (.es (eSp l s)), .one (.e (eI (lv : Int)))] (outX l r)
set_option maxRecDepth 10000 in
set_option maxHeartbeats 2000000 in
theorem ground_fn (l : List Tok) (ho : tksOk l) (s : Spot) (c0 : Spot → Ex × Spot) (hcf : Fwd l c0) (hcl : s.e = 0 → ∀ s', s.p < s'.p → s'.p ≤ l.length → Clb l 0 s' (c0 s')) : FnG Tryd.prog 19 (gZ) [.agg (.es (eSp l s))] (outX l (groundF l c0 s)) := by
  refine fn_introG (T := tab) tOk Tryd.func19 rfl (by kernel_rfl) (by simp [Tryd.ntmps19]) ?_
  intro X hX
  have hnt : X.nt = 145 := hX
  clear hX
  have hm := ho.1
  have hm' : l.length ≤ 9223372036854775807 := Nat.le_trans hm (by decide)
  generalize hgr : groundF l c0 s = g at *
  unfold groundF at hgr
  repeat' first | refine zzs ?_ | refine zzr hnt rfl ?_ ?_ | refine zzd hnt rfl ?_ ?_ | refine zzb ?_ | refine zzk ?_
  · exact zzt
  · exact zzt
  refine tr_le (s' := St.of [(1, .one (.ptr 1 0 0)), (2, .one (.ptr 2 0 0)), (3, .one (.ptr 3 0 0)), (4, .one (.clo 32 [(1, 0, 0)])), ((1000000 + 0), .one (.eptr mkE)), ((1000000 + 1), .one (.eptr spE)), ((1000000 + 3), .one (.eptr fsE)), ((1000000 + 4), .one (.eptr acE))] [(1, ⟨0, .box (.es (eSp l s)), 0⟩), (2, ⟨0, .box (.ds [.e (eI 0), .e (eI 0), .e (eI 0), .e (eQ 0), .e (eT []), .e (eT []), .nil]), 0⟩), (3, ⟨0, .box (.ds [.nil, .e (eI 0), .e (eI 0)]), 0⟩)]) (le_of (ad := []) ⟨zzl, zzl, zzl, zzl, zzl, zzl, zzl, zzl, trivial⟩ (memOk_box rfl rfl rfl (memOk_box rfl rfl ⟨rfl, rfl, rfl, rfl, rfl, rfl, trivial, trivial⟩ (memOk_box rfl rfl ⟨trivial, rfl, rfl, trivial⟩ trivial)))) ?_
  cases hs1 : seesF l s tokNl with
  | true =>
    rw [if_pos hs1] at hgr
    subst hgr
    have hlt := (sees_iff.1 hs1).2.1
    have hmx : s.p < 9223372036854775807 := by omega
    have hsn := sees_fn l s ([78, 85, 76, 76]) tokNl [] tokens_i
    rw [hs1] at hsn
    repeat' first | refine zzs ?_ | refine zzb ?_ | refine zzk ?_
    refine tr_region (zzx hnt rfl ?_ (callV rfl rfl rfl rfl rfl rfl rfl hnt rfl (hsn) (zzx hnt rfl ?_ (Lex.nil _)))) ?_
    · exact zzt
    · exact zzt
    repeat' first | refine zzs ?_ | refine zzb ?_ | refine zzk ?_
    refine tr_cond rfl (fun hc => ?_) (fun hc => ?_)
    · have w7 : (Cs.es (eEx (litE val0))).len = 7 := by rw [eEx_eq]; rfl
      have hl := lit_fn l s val0 hmx
      repeat' first | refine zzs ?_ | refine zzb ?_ | refine zzk ?_
      refine tr_region (zzx hnt rfl ?_ (callH (us := []) [(900000, 1)] [] [] rfl rfl rfl rfl (hl) (by repeat' first | exact .nil | refine .lent rfl rfl rfl ?_ | refine .data rfl ?_) (fun _ => rfl) rfl rfl hnt rfl rfl (by repeat' first | exact trivial | rfl | apply And.intro) (by repeat' first | exact trivial | rfl | apply And.intro) (zzx hnt rfl ?_ (Lex.nil _)))) ?_
      · exact zzt
      · exact zzt
      exact tr_ret ⟨.inr rfl, _, _, rfl, (by (repeat' first | exact trivial | exact Nat.le_of_ble_eq_true rfl | exact Nat.le_of_eq w7.symm | apply And.intro)), congrArg (fun x => D.tup [(true, Cs.es x), (true, Cs.es _)]) (tk7 _)⟩
    exact absurd hc Bool.noConfusion
  | false =>
  rw [if_neg (by rw [hs1]; exact Bool.noConfusion)] at hgr
  have hsn := sees_fn l s ([78, 85, 76, 76]) tokNl [] tokens_i
  rw [hs1] at hsn
  repeat' first | refine zzs ?_ | refine zzb ?_ | refine zzk ?_
  refine tr_region (zzx hnt rfl ?_ (callV rfl rfl rfl rfl rfl rfl rfl hnt rfl (hsn) (zzx hnt rfl ?_ (Lex.nil _)))) ?_
  · exact zzt
  · exact zzt
  repeat' first | refine zzs ?_ | refine zzb ?_ | refine zzk ?_
  refine tr_cond rfl (fun hc => ?_) (fun hc => ?_)
  · exact absurd hc Bool.noConfusion
  refine tr_le (s' := St.of [(1, .one (.ptr 1 0 0)), (2, .one (.ptr 2 0 0)), (3, .one (.ptr 3 0 0)), (4, .one (.clo 32 [(1, 0, 0)])), ((1000000 + 0), .one (.eptr mkE)), ((1000000 + 1), .one (.eptr spE)), ((1000000 + 3), .one (.eptr fsE)), ((1000000 + 4), .one (.eptr acE))] [(1, ⟨0, .box (.es (eSp l s)), 0⟩), (2, ⟨0, .box (.ds [.e (eI 0), .e (eI 0), .e (eI 0), .e (eQ 0), .e (eT []), .e (eT []), .nil]), 0⟩), (3, ⟨0, .box (.ds [.nil, .e (eI 0), .e (eI 0)]), 0⟩)]) (le_of (ad := []) ⟨zzl, zzl, zzl, zzl, zzl, zzl, zzl, zzl, trivial⟩ (memOk_box rfl rfl rfl (memOk_box rfl rfl ⟨rfl, rfl, rfl, rfl, rfl, rfl, trivial, trivial⟩ (memOk_box rfl rfl ⟨trivial, rfl, rfl, trivial⟩ trivial)))) ?_
  cases hs2 : seesF l s tokT with
  | true =>
    rw [if_pos hs2] at hgr
    subst hgr
    have hlt := (sees_iff.1 hs2).2.1
    have hmx : s.p < 9223372036854775807 := by omega
    have hsn := sees_fn l s ([84, 82, 85, 69]) tokT [] tokens_k
    rw [hs2] at hsn
    repeat' first | refine zzs ?_ | refine zzb ?_ | refine zzk ?_
    refine tr_region (zzx hnt rfl ?_ (callV rfl rfl rfl rfl rfl rfl rfl hnt rfl (hsn) (zzx hnt rfl ?_ (Lex.nil _)))) ?_
    · exact zzt
    · exact zzt
    repeat' first | refine zzs ?_ | refine zzb ?_ | refine zzk ?_
    refine tr_cond rfl (fun hc => ?_) (fun hc => ?_)
    · have w7 : (Cs.es (eEx (litE (⟨1, 1, 0, []⟩)))).len = 7 := by rw [eEx_eq]; rfl
      have hl := lit_fn l s (⟨1, 1, 0, []⟩) hmx
      repeat' first | refine zzs ?_ | refine zzb ?_ | refine zzk ?_
      refine tr_region (zzx hnt rfl ?_ (callH (us := []) [(900000, 1)] [] [] rfl rfl rfl rfl (hl) (by repeat' first | exact .nil | refine .lent rfl rfl rfl ?_ | refine .data rfl ?_) (fun _ => rfl) rfl rfl hnt rfl rfl (by repeat' first | exact trivial | rfl | apply And.intro) (by repeat' first | exact trivial | rfl | apply And.intro) (zzx hnt rfl ?_ (Lex.nil _)))) ?_
      · exact zzt
      · exact zzt
      exact tr_ret ⟨.inr rfl, _, _, rfl, (by (repeat' first | exact trivial | exact Nat.le_of_ble_eq_true rfl | exact Nat.le_of_eq w7.symm | apply And.intro)), congrArg (fun x => D.tup [(true, Cs.es x), (true, Cs.es _)]) (tk7 _)⟩
    exact absurd hc Bool.noConfusion
  | false =>
  rw [if_neg (by rw [hs2]; exact Bool.noConfusion)] at hgr
  have hsn := sees_fn l s ([84, 82, 85, 69]) tokT [] tokens_k
  rw [hs2] at hsn
  repeat' first | refine zzs ?_ | refine zzb ?_ | refine zzk ?_
  refine tr_region (zzx hnt rfl ?_ (callV rfl rfl rfl rfl rfl rfl rfl hnt rfl (hsn) (zzx hnt rfl ?_ (Lex.nil _)))) ?_
  · exact zzt
  · exact zzt
  repeat' first | refine zzs ?_ | refine zzb ?_ | refine zzk ?_
  refine tr_cond rfl (fun hc => ?_) (fun hc => ?_)
  · exact absurd hc Bool.noConfusion
  refine tr_le (s' := St.of [(1, .one (.ptr 1 0 0)), (2, .one (.ptr 2 0 0)), (3, .one (.ptr 3 0 0)), (4, .one (.clo 32 [(1, 0, 0)])), ((1000000 + 0), .one (.eptr mkE)), ((1000000 + 1), .one (.eptr spE)), ((1000000 + 3), .one (.eptr fsE)), ((1000000 + 4), .one (.eptr acE))] [(1, ⟨0, .box (.es (eSp l s)), 0⟩), (2, ⟨0, .box (.ds [.e (eI 0), .e (eI 0), .e (eI 0), .e (eQ 0), .e (eT []), .e (eT []), .nil]), 0⟩), (3, ⟨0, .box (.ds [.nil, .e (eI 0), .e (eI 0)]), 0⟩)]) (le_of (ad := []) ⟨zzl, zzl, zzl, zzl, zzl, zzl, zzl, zzl, trivial⟩ (memOk_box rfl rfl rfl (memOk_box rfl rfl ⟨rfl, rfl, rfl, rfl, rfl, rfl, trivial, trivial⟩ (memOk_box rfl rfl ⟨trivial, rfl, rfl, trivial⟩ trivial)))) ?_
  cases hs3 : seesF l s tokF with
  | true =>
    rw [if_pos hs3] at hgr
    subst hgr
    have hlt := (sees_iff.1 hs3).2.1
    have hmx : s.p < 9223372036854775807 := by omega
    have hsn := sees_fn l s ([70, 65, 76, 83, 69]) tokF [] tokens_j
    rw [hs3] at hsn
    repeat' first | refine zzs ?_ | refine zzb ?_ | refine zzk ?_
    refine tr_region (zzx hnt rfl ?_ (callV rfl rfl rfl rfl rfl rfl rfl hnt rfl (hsn) (zzx hnt rfl ?_ (Lex.nil _)))) ?_
    · exact zzt
    · exact zzt
    repeat' first | refine zzs ?_ | refine zzb ?_ | refine zzk ?_
    refine tr_cond rfl (fun hc => ?_) (fun hc => ?_)
    · have w7 : (Cs.es (eEx (litE (⟨1, 0, 0, []⟩)))).len = 7 := by rw [eEx_eq]; rfl
      have hl := lit_fn l s (⟨1, 0, 0, []⟩) hmx
      repeat' first | refine zzs ?_ | refine zzb ?_ | refine zzk ?_
      refine tr_region (zzx hnt rfl ?_ (callH (us := []) [(900000, 1)] [] [] rfl rfl rfl rfl (hl) (by repeat' first | exact .nil | refine .lent rfl rfl rfl ?_ | refine .data rfl ?_) (fun _ => rfl) rfl rfl hnt rfl rfl (by repeat' first | exact trivial | rfl | apply And.intro) (by repeat' first | exact trivial | rfl | apply And.intro) (zzx hnt rfl ?_ (Lex.nil _)))) ?_
      · exact zzt
      · exact zzt
      exact tr_ret ⟨.inr rfl, _, _, rfl, (by (repeat' first | exact trivial | exact Nat.le_of_ble_eq_true rfl | exact Nat.le_of_eq w7.symm | apply And.intro)), congrArg (fun x => D.tup [(true, Cs.es x), (true, Cs.es _)]) (tk7 _)⟩
    exact absurd hc Bool.noConfusion
  | false =>
  rw [if_neg (by rw [hs3]; exact Bool.noConfusion)] at hgr
  have hsn := sees_fn l s ([70, 65, 76, 83, 69]) tokF [] tokens_j
  rw [hs3] at hsn
  repeat' first | refine zzs ?_ | refine zzb ?_ | refine zzk ?_
  refine tr_region (zzx hnt rfl ?_ (callV rfl rfl rfl rfl rfl rfl rfl hnt rfl (hsn) (zzx hnt rfl ?_ (Lex.nil _)))) ?_
  · exact zzt
  · exact zzt
  repeat' first | refine zzs ?_ | refine zzb ?_ | refine zzk ?_
  refine tr_cond rfl (fun hc => ?_) (fun hc => ?_)
  · exact absurd hc Bool.noConfusion
  refine tr_le (s' := St.of [(1, .one (.ptr 1 0 0)), (2, .one (.ptr 2 0 0)), (3, .one (.ptr 3 0 0)), (4, .one (.clo 32 [(1, 0, 0)])), ((1000000 + 0), .one (.eptr mkE)), ((1000000 + 1), .one (.eptr spE)), ((1000000 + 3), .one (.eptr fsE)), ((1000000 + 4), .one (.eptr acE))] [(1, ⟨0, .box (.es (eSp l s)), 0⟩), (2, ⟨0, .box (.ds [.e (eI 0), .e (eI 0), .e (eI 0), .e (eQ 0), .e (eT []), .e (eT []), .nil]), 0⟩), (3, ⟨0, .box (.ds [.nil, .e (eI 0), .e (eI 0)]), 0⟩)]) (le_of (ad := []) ⟨zzl, zzl, zzl, zzl, zzl, zzl, zzl, zzl, trivial⟩ (memOk_box rfl rfl rfl (memOk_box rfl rfl ⟨rfl, rfl, rfl, rfl, rfl, rfl, trivial, trivial⟩ (memOk_box rfl rfl ⟨trivial, rfl, rfl, trivial⟩ trivial)))) ?_
  cases hs4 : seesF l s tokL with
  | true =>
    rw [if_pos hs4] at hgr
    have hlt := (sees_iff.1 hs4).2.1
    have hz := hcl (sees_iff.1 hs4).1 (pastF l s [tokL]) (by rw [past_yes hs4]; exact Nat.lt_succ_self _) (by rw [past_yes hs4]; exact hlt)
    have hp := pstL l hm s
    unfold Clb at hz
    unfold Pst at hp
    generalize c0 (pastF l s [tokL]) = r at *
    obtain ⟨e1, s1⟩ := r
    have hgr : (e1, pastF l s1 [tokR]) = g := hgr
    subst hgr
    have w7 : (Cs.es (eEx e1)).len = 7 := by rw [eEx_eq]; rfl
    have w8 : (Cs.es (List.take 7 (List.drop 0 (eEx e1)))).len = 7 := by rw [tk7]; exact w7
    have hsn := sees_fn l s ([40]) tokL [] tokens_c
    rw [hs4] at hsn
    repeat' first | refine zzs ?_ | refine zzb ?_ | refine zzk ?_
    refine tr_region (zzx hnt rfl ?_ (callV rfl rfl rfl rfl rfl rfl rfl hnt rfl (hsn) (zzx hnt rfl ?_ (Lex.nil _)))) ?_
    · exact zzt
    · exact zzt
    repeat' first | refine zzs ?_ | refine zzb ?_ | refine zzk ?_
    refine tr_cond rfl (fun hc => ?_) (fun hc => ?_)
    · repeat' first | refine zzs ?_ | refine zzb ?_ | refine zzk ?_
      refine tr_region (zzx hnt rfl ?_ (callV rfl rfl rfl rfl rfl rfl rfl hnt rfl (hp) (zzx hnt rfl ?_ (callV rfl rfl rfl rfl rfl rfl rfl hnt rfl (hz) (zzx hnt rfl ?_ (Lex.nil _)))))) ?_
      · exact zzt
      · exact zzt
      · exact zzt
      have hp := pstR l hm s1
      unfold Pst at hp
      repeat' first | refine zzs ?_ | refine zzb ?_ | refine zzk ?_
      refine tr_draw (T := tab) tOk hnt mixedR (lexD (T := tab) rfl ?_ (callVD rfl rfl rfl rfl rfl rfl rfl rfl rfl (hp) (lexD (T := tab) rfl ?_ (.nil _)))) (by first | decide +kernel | kernel_rfl) ?_
      · exact zza
      · exact zza
      exact tr_ret ⟨.inr rfl, _, _, rfl, (by (repeat' first | exact trivial | exact Nat.le_of_ble_eq_true rfl | exact Nat.le_of_eq w7.symm | exact Nat.le_of_eq w8.symm | apply And.intro)), congrArg (fun x => D.tup [(true, Cs.es x), (true, Cs.es _)]) (tk77 _)⟩
    exact absurd hc Bool.noConfusion
  | false =>
  rw [if_neg (by rw [hs4]; exact Bool.noConfusion)] at hgr
  have hsn := sees_fn l s ([40]) tokL [] tokens_c
  rw [hs4] at hsn
  repeat' first | refine zzs ?_ | refine zzb ?_ | refine zzk ?_
  refine tr_region (zzx hnt rfl ?_ (callV rfl rfl rfl rfl rfl rfl rfl hnt rfl (hsn) (zzx hnt rfl ?_ (Lex.nil _)))) ?_
  · exact zzt
  · exact zzt
  repeat' first | refine zzs ?_ | refine zzb ?_ | refine zzk ?_
  refine tr_cond rfl (fun hc => ?_) (fun hc => ?_)
  · exact absurd hc Bool.noConfusion
  refine tr_le (s' := St.of [(1, .one (.ptr 1 0 0)), (2, .one (.ptr 2 0 0)), (3, .one (.ptr 3 0 0)), (4, .one (.clo 32 [(1, 0, 0)])), ((1000000 + 0), .one (.eptr mkE)), ((1000000 + 1), .one (.eptr spE)), ((1000000 + 3), .one (.eptr fsE)), ((1000000 + 4), .one (.eptr acE))] [(1, ⟨0, .box (.es (eSp l s)), 0⟩), (2, ⟨0, .box (.ds [.e (eI 0), .e (eI 0), .e (eI 0), .e (eQ 0), .e (eT []), .e (eT []), .nil]), 0⟩), (3, ⟨0, .box (.ds [.nil, .e (eI 0), .e (eI 0)]), 0⟩)]) (le_of (ad := []) ⟨zzl, zzl, zzl, zzl, zzl, zzl, zzl, zzl, trivial⟩ (memOk_box rfl rfl rfl (memOk_box rfl rfl ⟨rfl, rfl, rfl, rfl, rfl, rfl, trivial, trivial⟩ (memOk_box rfl rfl ⟨trivial, rfl, rfl, trivial⟩ trivial)))) ?_
  cases hs5 : seesF l s tokLn with
  | true =>
    rw [if_pos hs5] at hgr
    have hlt := (sees_iff.1 hs5).2.1
    have hq : s.p < (pastF l s [tokLn, tokL]).p ∧ (pastF l s [tokLn, tokL]).p ≤ l.length := by
      have h := past_fwd l [tokL] ⟨s.p + 1, s.e⟩
      rw [past_cons, if_pos hs5]
      exact ⟨Nat.lt_of_lt_of_le (Nat.lt_succ_self _) h.1, h.2 hlt⟩
    have hz := hcl (sees_iff.1 hs5).1 (pastF l s [tokLn, tokL]) hq.1 hq.2
    have hp := pstLn l hm s
    unfold Clb at hz
    unfold Pst at hp
    generalize c0 (pastF l s [tokLn, tokL]) = r at *
    obtain ⟨e1, s1⟩ := r
    have hgr : (.mk 18 val0 [] [e1], pastF l s1 [tokR]) = g := hgr
    subst hgr
    have w7 : (Cs.es (eEx e1)).len = 7 := by rw [eEx_eq]; rfl
    have w8 : (Cs.es (List.take 7 (List.drop 0 (eEx e1)))).len = 7 := by rw [tk7]; exact w7
    have hsn := sees_fn l s ([76, 69, 78, 71, 84, 72]) tokLn [] (tk1 flLn (by decide))
    rw [hs5] at hsn
    repeat' first | refine zzs ?_ | refine zzb ?_ | refine zzk ?_
    refine tr_region (zzx hnt rfl ?_ (callV rfl rfl rfl rfl rfl rfl rfl hnt rfl (hsn) (zzx hnt rfl ?_ (Lex.nil _)))) ?_
    · exact zzt
    · exact zzt
    repeat' first | refine zzs ?_ | refine zzb ?_ | refine zzk ?_
    refine tr_cond rfl (fun hc => ?_) (fun hc => ?_)
    · repeat' first | refine zzs ?_ | refine zzb ?_ | refine zzk ?_
      refine tr_region (zzx hnt rfl ?_ (callV rfl rfl rfl rfl rfl rfl rfl hnt rfl (hp) (zzx hnt rfl ?_ (callV rfl rfl rfl rfl rfl rfl rfl hnt rfl (hz) (zzx hnt rfl ?_ (Lex.nil _)))))) ?_
      · exact zzt
      · exact zzt
      · exact zzt
      have hp := pstR l hm s1
      unfold Pst at hp
      repeat' first | refine zzs ?_ | refine zzb ?_ | refine zzk ?_
      refine tr_draw (T := tab) tOk hnt mixedR (lexD (T := tab) rfl ?_ (callVD rfl rfl rfl rfl rfl rfl rfl rfl rfl (hp) (lexD (T := tab) rfl ?_ (.nil _)))) (by first | decide +kernel | kernel_rfl) ?_
      · exact zza
      · exact zza
      refine tr_le (le_box 2 rfl rfl rfl) ?_
      exact tr_ret ⟨.inr rfl, _, _, rfl, (by (repeat' first | exact trivial | exact Nat.le_of_ble_eq_true rfl | exact Nat.le_of_eq w7.symm | exact Nat.le_of_eq w8.symm | apply And.intro)), congrArg (fun x => D.tup [(true, Cs.es x), (true, Cs.es _)]) (by rw [eEx_mk, tk7]; rfl)⟩
    exact absurd hc Bool.noConfusion
  | false =>
  rw [if_neg (by rw [hs5]; exact Bool.noConfusion)] at hgr
  have hsn := sees_fn l s ([76, 69, 78, 71, 84, 72]) tokLn [] (tk1 flLn (by decide))
  rw [hs5] at hsn
  repeat' first | refine zzs ?_ | refine zzb ?_ | refine zzk ?_
  refine tr_region (zzx hnt rfl ?_ (callV rfl rfl rfl rfl rfl rfl rfl hnt rfl (hsn) (zzx hnt rfl ?_ (Lex.nil _)))) ?_
  · exact zzt
  · exact zzt
  repeat' first | refine zzs ?_ | refine zzb ?_ | refine zzk ?_
  refine tr_cond rfl (fun hc => ?_) (fun hc => ?_)
  · exact absurd hc Bool.noConfusion
  refine tr_le (s' := St.of [(1, .one (.ptr 1 0 0)), (2, .one (.ptr 2 0 0)), (3, .one (.ptr 3 0 0)), (4, .one (.clo 32 [(1, 0, 0)])), ((1000000 + 0), .one (.eptr mkE)), ((1000000 + 1), .one (.eptr spE)), ((1000000 + 3), .one (.eptr fsE)), ((1000000 + 4), .one (.eptr acE))] [(1, ⟨0, .box (.es (eSp l s)), 0⟩), (2, ⟨0, .box (.ds [.e (eI 0), .e (eI 0), .e (eI 0), .e (eQ 0), .e (eT []), .e (eT []), .nil]), 0⟩), (3, ⟨0, .box (.ds [.nil, .e (eI 0), .e (eI 0)]), 0⟩)]) (le_of (ad := []) ⟨zzl, zzl, zzl, zzl, zzl, zzl, zzl, zzl, trivial⟩ (memOk_box rfl rfl rfl (memOk_box rfl rfl ⟨rfl, rfl, rfl, rfl, rfl, rfl, trivial, trivial⟩ (memOk_box rfl rfl ⟨trivial, rfl, rfl, trivial⟩ trivial)))) ?_
  cases hs6 : seesF l s tokCo with
  | true =>
    rw [if_pos hs6] at hgr
    have hlt := (sees_iff.1 hs6).2.1
    have hq : s.p < (pastF l s [tokCo, tokL]).p ∧ (pastF l s [tokCo, tokL]).p ≤ l.length := by
      have h := past_fwd l [tokL] ⟨s.p + 1, s.e⟩
      rw [past_cons, if_pos hs6]
      exact ⟨Nat.lt_of_lt_of_le (Nat.lt_succ_self _) h.1, h.2 hlt⟩
    have hz := hcl (sees_iff.1 hs6).1 (pastF l s [tokCo, tokL]) hq.1 hq.2
    have hf1 := hcf (pastF l s [tokCo, tokL])
    have hp := pstCo l hm s
    unfold Clb at hz
    unfold Pst at hp
    generalize c0 (pastF l s [tokCo, tokL]) = r at *
    obtain ⟨e1, s1⟩ := r
    have hq1 : s.p < s1.p ∧ s1.p ≤ l.length := ⟨Nat.lt_of_lt_of_le hq.1 hf1.1, hf1.2 hq.2⟩
    have hgr : (.mk 20 val0 [] [e1, (c0 (pastF l s1 [tokC])).1], pastF l (c0 (pastF l s1 [tokC])).2 [tokR]) = g := hgr
    have hq2 := past_fwd l [tokC] s1
    have hz2 := hcl (sees_iff.1 hs6).1 (pastF l s1 [tokC]) (Nat.lt_of_lt_of_le hq1.1 hq2.1) (hq2.2 hq1.2)
    have hp2 := pstC l hm s1
    unfold Clb at hz2
    unfold Pst at hp2
    generalize c0 (pastF l s1 [tokC]) = r2 at *
    obtain ⟨e2, s2⟩ := r2
    have hgr : (.mk 20 val0 [] [e1, e2], pastF l s2 [tokR]) = g := hgr
    subst hgr
    have w7 : (Cs.es (eEx e1)).len = 7 := by rw [eEx_eq]; rfl
    have w8 : (Cs.es (List.take 7 (List.drop 0 (eEx e1)))).len = 7 := by rw [tk7]; exact w7
    have v7 : (Cs.es (eEx e2)).len = 7 := by rw [eEx_eq]; rfl
    have v8 : (Cs.es (List.take 7 (List.drop 0 (eEx e2)))).len = 7 := by rw [tk7]; exact v7
    have hsn := sees_fn l s ([67, 79, 65, 76, 69, 83, 67, 69]) tokCo [] (tk1 flCo (by decide))
    rw [hs6] at hsn
    repeat' first | refine zzs ?_ | refine zzb ?_ | refine zzk ?_
    refine tr_region (zzx hnt rfl ?_ (callV rfl rfl rfl rfl rfl rfl rfl hnt rfl (hsn) (zzx hnt rfl ?_ (Lex.nil _)))) ?_
    · exact zzt
    · exact zzt
    repeat' first | refine zzs ?_ | refine zzb ?_ | refine zzk ?_
    refine tr_cond rfl (fun hc => ?_) (fun hc => ?_)
    · repeat' first | refine zzs ?_ | refine zzb ?_ | refine zzk ?_
      refine tr_region (zzx hnt rfl ?_ (callV rfl rfl rfl rfl rfl rfl rfl hnt rfl (hp) (zzx hnt rfl ?_ (callV rfl rfl rfl rfl rfl rfl rfl hnt rfl (hz) (zzx hnt rfl ?_ (Lex.nil _)))))) ?_
      · exact zzt
      · exact zzt
      · exact zzt
      repeat' first | refine zzs ?_ | refine zzb ?_ | refine zzk ?_
      refine tr_region (zzx hnt rfl ?_ (callV rfl rfl rfl rfl rfl rfl rfl hnt rfl (hp2) (zzx hnt rfl ?_ (callV rfl rfl rfl rfl rfl rfl rfl hnt rfl (hz2) (zzx hnt rfl ?_ (Lex.nil _)))))) ?_
      · exact zzt
      · exact zzt
      · exact zzt
      have hp := pstR l hm s2
      unfold Pst at hp
      repeat' first | refine zzs ?_ | refine zzb ?_ | refine zzk ?_
      refine tr_draw (T := tab) tOk hnt mixedR (lexD (T := tab) rfl ?_ (callVD rfl rfl rfl rfl rfl rfl rfl rfl rfl (hp) (lexD (T := tab) rfl ?_ (.nil _)))) (by first | decide +kernel | kernel_rfl) ?_
      · exact zza
      · exact zza
      refine tr_le (le_box 2 rfl rfl rfl) ?_
      exact tr_ret ⟨.inr rfl, _, _, rfl, (by (repeat' first | exact trivial | exact Nat.le_of_ble_eq_true rfl | exact Nat.le_of_eq w7.symm | exact Nat.le_of_eq w8.symm | apply And.intro)), congrArg (fun x => D.tup [(true, Cs.es x), (true, Cs.es _)]) (by rw [eEx_mk, tk7, tk7]; rfl)⟩
    exact absurd hc Bool.noConfusion
  | false =>
  rw [if_neg (by rw [hs6]; exact Bool.noConfusion)] at hgr
  have hsn := sees_fn l s ([67, 79, 65, 76, 69, 83, 67, 69]) tokCo [] (tk1 flCo (by decide))
  rw [hs6] at hsn
  repeat' first | refine zzs ?_ | refine zzb ?_ | refine zzk ?_
  refine tr_region (zzx hnt rfl ?_ (callV rfl rfl rfl rfl rfl rfl rfl hnt rfl (hsn) (zzx hnt rfl ?_ (Lex.nil _)))) ?_
  · exact zzt
  · exact zzt
  repeat' first | refine zzs ?_ | refine zzb ?_ | refine zzk ?_
  refine tr_cond rfl (fun hc => ?_) (fun hc => ?_)
  · exact absurd hc Bool.noConfusion
  refine tr_le (s' := St.of [(1, .one (.ptr 1 0 0)), (2, .one (.ptr 2 0 0)), (3, .one (.ptr 3 0 0)), (4, .one (.clo 32 [(1, 0, 0)])), ((1000000 + 0), .one (.eptr mkE)), ((1000000 + 1), .one (.eptr spE)), ((1000000 + 3), .one (.eptr fsE)), ((1000000 + 4), .one (.eptr acE))] [(1, ⟨0, .box (.es (eSp l s)), 0⟩), (2, ⟨0, .box (.ds [.e (eI 0), .e (eI 0), .e (eI 0), .e (eQ 0), .e (eT []), .e (eT []), .nil]), 0⟩), (3, ⟨0, .box (.ds [.nil, .e (eI 0), .e (eI 0)]), 0⟩)]) (le_of (ad := []) ⟨zzl, zzl, zzl, zzl, zzl, zzl, zzl, zzl, trivial⟩ (memOk_box rfl rfl rfl (memOk_box rfl rfl ⟨rfl, rfl, rfl, rfl, rfl, rfl, trivial, trivial⟩ (memOk_box rfl rfl ⟨trivial, rfl, rfl, trivial⟩ trivial)))) ?_
  have hkd := kind_fn l ho s
  repeat' first | refine zzs ?_ | refine zzb ?_ | refine zzk ?_
  refine tr_region (zzx hnt rfl ?_ (callV rfl rfl rfl rfl rfl rfl rfl hnt rfl (hkd) (zzx hnt rfl ?_ (Lex.nil _)))) ?_
  · exact zzt
  · exact zzt
  generalize hk : kindF l s = k at *
  repeat' first | refine zzs ?_ | refine zzr hnt rfl ?_ ?_ | refine zzd hnt rfl ?_ ?_ | refine zzb ?_ | refine zzk ?_
  · exact zzt
  repeat' first | refine zzs ?_ | refine zzb ?_ | refine zzk ?_
  refine tr_cond rfl (fun hc => ?_) (fun hc => ?_)
  · have hc : k = 1 := of_decide_eq_true hc
    subst hc
    have hgr : (.mk 2 val0 (l.getD s.p tok0).t [], (⟨s.p + 1, s.e⟩ : Spot)) = g := hgr
    subst hgr
    have hone := one_fn l ho s hk
    repeat' first | refine zzs ?_ | refine zzb ?_ | refine zzk ?_
    refine tr_region (zzx hnt rfl ?_ (callV rfl rfl rfl rfl rfl rfl rfl hnt rfl (hone) (zzx hnt rfl ?_ (Lex.nil _)))) ?_
    · exact zzt
    · exact zzt
    repeat' first | refine zzs ?_ | refine zzr hnt rfl ?_ ?_ | refine zzd hnt rfl ?_ ?_ | refine zzb ?_ | refine zzk ?_
    · exact zzt
    exact tr_ret ⟨.inr rfl, _, _, rfl, zzp, congrArg (fun x => D.tup [(true, Cs.es x), (true, Cs.es _)]) (by rw [eEx_mk]; rfl)⟩
  have hc1 : ¬ k = 1 := of_decide_eq_false hc
  rw [if_neg hc1] at hgr
  repeat' first | refine zzs ?_ | refine zzr hnt rfl ?_ ?_ | refine zzd hnt rfl ?_ ?_ | refine zzb ?_ | refine zzk ?_
  · exact zzt
  repeat' first | refine zzs ?_ | refine zzb ?_ | refine zzk ?_
  refine tr_cond rfl (fun hc => ?_) (fun hc => ?_)
  · have hc : k = 3 := of_decide_eq_true hc
    subst hc
    rw [if_pos rfl] at hgr
    subst hgr
    have hlt := (kind_lt (l := l) (s := s) (by rw [hk]; decide)).2.1
    have hmx : s.p < 9223372036854775807 := by omega
    have h1 : ((eSp l s).getD (0 + 0) E.dflt).xs.length = l.length := List.length_map ..
    have h2 : ((eSp l s).getD (0 + 1) E.dflt).int = (s.p : Int) := rfl
    have hg := spGet l s hlt
    have w7 : (Cs.es (eEx (litE (⟨2, (l.getD s.p tok0).i, 0, []⟩)))).len = 7 := by rw [eEx_eq]; rfl
    have hl := lit_fn l s (⟨2, (l.getD s.p tok0).i, 0, []⟩) hmx
    have hl' : FnH Tryd.prog 32 [] (msS l s) [.agg (.es ([eI 2, E.v (.int .i64 ((List.drop 2 (((eSp l s).getD (0 + 0) E.dflt).xs.getD ((eSp l s).getD (0 + 1) E.dflt).int.toNat [])).getD 0 E.dflt).int), eQ 0, eT []])), ptS] (.tup [(true, .es (eEx (litE (⟨2, (l.getD s.p tok0).i, 0, []⟩)))), (true, .es (eSp l ⟨s.p + 1, s.e⟩))]) (msS l ⟨s.p + 1, s.e⟩) := by
      rw [hg]
      exact hl
    repeat' first | refine zzs ?_ | refine zzb ?_ | refine zzk ?_
    refine tr_region (zzx hnt rfl ?_ (callH (us := []) [(900000, 1)] [] [] rfl rfl rfl rfl (hl') (by repeat' first | exact .nil | refine .lent rfl rfl rfl ?_ | refine .data rfl ?_) (fun _ => rfl) rfl rfl hnt rfl rfl (by repeat' first | exact trivial | rfl | apply And.intro) (by repeat' first | exact trivial | rfl | apply And.intro) (zzx hnt rfl ?_ (Lex.nil _)))) ?_
    · rw [hg, h1, h2]
      exact zza
    · exact zza
    exact tr_ret ⟨.inr rfl, _, _, rfl, (by (repeat' first | exact trivial | exact Nat.le_of_ble_eq_true rfl | exact Nat.le_of_eq w7.symm | apply And.intro)), congrArg (fun x => D.tup [(true, Cs.es x), (true, Cs.es _)]) (tk7 _)⟩
  have hc3 : ¬ k = 3 := of_decide_eq_false hc
  rw [if_neg hc3] at hgr
  repeat' first | refine zzs ?_ | refine zzr hnt rfl ?_ ?_ | refine zzd hnt rfl ?_ ?_ | refine zzb ?_ | refine zzk ?_
  · exact zzt
  repeat' first | refine zzs ?_ | refine zzb ?_ | refine zzk ?_
  refine tr_cond rfl (fun hc => ?_) (fun hc => ?_)
  · have hc : k = 5 := of_decide_eq_true hc
    subst hc
    rw [if_pos rfl] at hgr
    subst hgr
    have hlt := (kind_lt (l := l) (s := s) (by rw [hk]; decide)).2.1
    have hmx : s.p < 9223372036854775807 := by omega
    have h1 : ((eSp l s).getD (0 + 0) E.dflt).xs.length = l.length := List.length_map ..
    have h2 : ((eSp l s).getD (0 + 1) E.dflt).int = (s.p : Int) := rfl
    have hg := spGet l s hlt
    have w7 : (Cs.es (eEx (litE (⟨3, 0, (l.getD s.p tok0).b, []⟩)))).len = 7 := by rw [eEx_eq]; rfl
    have hl := lit_fn l s (⟨3, 0, (l.getD s.p tok0).b, []⟩) hmx
    have hl' : FnH Tryd.prog 32 [] (msS l s) [.agg (.es ([eI 3, eI 0, E.v (.int .u64 ((List.drop 3 (((eSp l s).getD (0 + 0) E.dflt).xs.getD ((eSp l s).getD (0 + 1) E.dflt).int.toNat [])).getD 0 E.dflt).int), eT []])), ptS] (.tup [(true, .es (eEx (litE (⟨3, 0, (l.getD s.p tok0).b, []⟩)))), (true, .es (eSp l ⟨s.p + 1, s.e⟩))]) (msS l ⟨s.p + 1, s.e⟩) := by
      rw [hg]
      exact hl
    repeat' first | refine zzs ?_ | refine zzb ?_ | refine zzk ?_
    refine tr_region (zzx hnt rfl ?_ (callH (us := []) [(900000, 1)] [] [] rfl rfl rfl rfl (hl') (by repeat' first | exact .nil | refine .lent rfl rfl rfl ?_ | refine .data rfl ?_) (fun _ => rfl) rfl rfl hnt rfl rfl (by repeat' first | exact trivial | rfl | apply And.intro) (by repeat' first | exact trivial | rfl | apply And.intro) (zzx hnt rfl ?_ (Lex.nil _)))) ?_
    · rw [hg, h1, h2]
      exact zza
    · exact zza
    exact tr_ret ⟨.inr rfl, _, _, rfl, (by (repeat' first | exact trivial | exact Nat.le_of_ble_eq_true rfl | exact Nat.le_of_eq w7.symm | apply And.intro)), congrArg (fun x => D.tup [(true, Cs.es x), (true, Cs.es _)]) (tk7 _)⟩
  have hc5 : ¬ k = 5 := of_decide_eq_false hc
  rw [if_neg hc5] at hgr
  repeat' first | refine zzs ?_ | refine zzr hnt rfl ?_ ?_ | refine zzd hnt rfl ?_ ?_ | refine zzb ?_ | refine zzk ?_
  · exact zzt
  repeat' first | refine zzs ?_ | refine zzb ?_ | refine zzk ?_
  refine tr_cond rfl (fun hc => ?_) (fun hc => ?_)
  · have hc : k = 4 := of_decide_eq_true hc
    subst hc
    rw [if_pos rfl] at hgr
    subst hgr
    have hlt := (kind_lt (l := l) (s := s) (by rw [hk]; decide)).2.1
    have hmx : s.p < 9223372036854775807 := by omega
    have h1 : ((eSp l s).getD (0 + 0) E.dflt).xs.length = l.length := List.length_map ..
    have h2 : ((eSp l s).getD (0 + 1) E.dflt).int = (s.p : Int) := rfl
    have hg := spGet l s hlt
    have w7 : (Cs.es (eEx (litE (⟨4, 0, 0, (l.getD s.p tok0).t⟩)))).len = 7 := by rw [eEx_eq]; rfl
    have hl := lit_fn l s (⟨4, 0, 0, (l.getD s.p tok0).t⟩) hmx
    have hl' : FnH Tryd.prog 32 [] (msS l s) [.agg (.es ([eI 4, eI 0, eQ 0, E.v (.string ((List.drop 1 (((eSp l s).getD (0 + 0) E.dflt).xs.getD ((eSp l s).getD (0 + 1) E.dflt).int.toNat [])).getD 0 E.dflt).str)])), ptS] (.tup [(true, .es (eEx (litE (⟨4, 0, 0, (l.getD s.p tok0).t⟩)))), (true, .es (eSp l ⟨s.p + 1, s.e⟩))]) (msS l ⟨s.p + 1, s.e⟩) := by
      rw [hg]
      exact hl
    repeat' first | refine zzs ?_ | refine zzb ?_ | refine zzk ?_
    refine tr_region (zzx hnt rfl ?_ (callH (us := []) [(900000, 1)] [] [] rfl rfl rfl rfl (hl') (by repeat' first | exact .nil | refine .lent rfl rfl rfl ?_ | refine .data rfl ?_) (fun _ => rfl) rfl rfl hnt rfl rfl (by repeat' first | exact trivial | rfl | apply And.intro) (by repeat' first | exact trivial | rfl | apply And.intro) (zzx hnt rfl ?_ (Lex.nil _)))) ?_
    · rw [hg, h1, h2]
      exact zza
    · exact zza
    exact tr_ret ⟨.inr rfl, _, _, rfl, (by (repeat' first | exact trivial | exact Nat.le_of_ble_eq_true rfl | exact Nat.le_of_eq w7.symm | apply And.intro)), congrArg (fun x => D.tup [(true, Cs.es x), (true, Cs.es _)]) (tk7 _)⟩
  have hc4 : ¬ k = 4 := of_decide_eq_false hc
  rw [if_neg hc4] at hgr
  subst hgr
  repeat' first | refine zzs ?_ | refine zzb ?_ | refine zzk ?_
  refine tr_region (zzx hnt rfl ?_ (call rfl rfl rfl rfl rfl rfl rfl hnt ((bad_fn l s)) (zzx hnt rfl ?_ (Lex.nil _)))) ?_
  · exact zzt
  · exact zzt
  exact tr_ret ⟨.inr rfl, _, _, rfl, zzp, rfl⟩
end Go.Proofs.YtcdifgacoleckaaDoor
namespace Go.Proofs.YtcdifgacoleckaaDoor
open Go Go.RowKit Go.Proofs.YtcdifgacoleckaaDoor.Ab
set_option linter.unusedSimpArgs false
set_option linter.unusedVariables false

set_option maxRecDepth 10000 in
set_option maxHeartbeats 2000000 in
theorem climb_not (l : List Tok) (ho : tksOk l) (n : Nat) (s : Spot) (h1 : seesF l s tokN = true → Clb l 2 ⟨s.p + 1, s.e⟩ (climbF l n 2 ⟨s.p + 1, s.e⟩)) (h2 : seesF l s tokN = false → Clb l 3 s (climbF l n 3 s)) : FnG Tryd.prog 12 (gZ) [.agg (.es (eSp l s)), .one (.e (eI 2))] (outX l (climbF l (n + 1) 2 s)) := by
  refine fn_introG (T := tab) tOk Tryd.func12 rfl (by kernel_rfl) (by simp [Tryd.ntmps12]) ?_
  intro X hX
  have hnt : X.nt = 99 := hX
  clear hX
  have hm := ho.1
  repeat' first | refine zzs ?_ | refine zzr hnt rfl ?_ ?_ | refine zzd hnt rfl ?_ ?_ | refine zzb ?_ | refine zzk ?_
  · exact zzt
  · exact zzt
  · exact zzt
  repeat' first | refine zzs ?_ | refine zzb ?_ | refine zzk ?_
  refine tr_cond rfl (fun hc => ?_) (fun hc => ?_)
  · have hsn := sees_fn l s [78, 79, 84] tokN [] tokens_b
    cases hs : seesF l s tokN with
    | true =>
      have hE : climbF l (n + 1) 2 s = (.mk 4 val0 [] [(climbF l n 2 ⟨s.p + 1, s.e⟩).1], (climbF l n 2 ⟨s.p + 1, s.e⟩).2) := by
        rw [climbF]
        simp [hs, past_yes hs]
      have hz := h1 hs
      have hp := pstN l hm s
      unfold Pst at hp
      unfold Clb at hz
      rw [past_yes hs] at hp
      rw [hE]
      generalize climbF l n 2 ⟨s.p + 1, s.e⟩ = r at *
      obtain ⟨e1, s1⟩ := r
      have w7 : (Cs.es (eEx e1)).len = 7 := by rw [eEx_eq]; rfl
      have w8 : (Cs.es (List.take 7 (List.drop 0 (eEx e1)))).len = 7 := by rw [tk7]; exact w7
      rw [hs] at hsn
      repeat' first | refine zzs ?_ | refine zzb ?_ | refine zzk ?_
      refine tr_region (zzx hnt rfl ?_ (callV rfl rfl rfl rfl rfl rfl rfl hnt rfl (hsn) (zzx hnt rfl ?_ (Lex.nil _)))) ?_
      · exact zzt
      · exact zzt
      repeat' first | refine zzs ?_ | refine zzb ?_ | refine zzk ?_
      refine tr_cond rfl (fun hc => ?_) (fun hc => ?_)
      · repeat' first | refine zzs ?_ | refine zzb ?_ | refine zzk ?_
        refine tr_region (zzx hnt rfl ?_ (callV rfl rfl rfl rfl rfl rfl rfl hnt rfl (hp) (zzx hnt rfl ?_ (callV rfl rfl rfl rfl rfl rfl rfl hnt rfl (hz) (zzx hnt rfl ?_ (Lex.nil _)))))) ?_
        · exact zzt
        · exact zzt
        · exact zzt
        repeat' first | refine zzs ?_ | refine zzb ?_ | refine zzk ?_
        first | refine zzr hnt rfl ?_ ?_ | refine zzd hnt rfl ?_ ?_
        · exact zza
        refine tr_le (le_box 4 rfl rfl rfl) ?_
        exact tr_ret ⟨.inr rfl, _, _, rfl, (by (repeat' first | exact trivial | exact Nat.le_of_ble_eq_true rfl | exact Nat.le_of_eq w7.symm | exact Nat.le_of_eq w8.symm | apply And.intro)), congrArg (fun x => D.tup [(true, Cs.es x), (true, Cs.es _)]) (by rw [eEx_mk, tk7]; rfl)⟩
      exact absurd hc Bool.noConfusion
    | false =>
      have hE : climbF l (n + 1) 2 s = climbF l n 3 s := by
        rw [climbF]
        simp [hs]
      have hz := h2 hs
      unfold Clb at hz
      rw [hE]
      generalize climbF l n 3 s = r at *
      obtain ⟨e1, s1⟩ := r
      have w7 : (Cs.es (eEx e1)).len = 7 := by rw [eEx_eq]; rfl
      have w8 : (Cs.es (List.take 7 (List.drop 0 (eEx e1)))).len = 7 := by rw [tk7]; exact w7
      rw [hs] at hsn
      repeat' first | refine zzs ?_ | refine zzb ?_ | refine zzk ?_
      refine tr_region (zzx hnt rfl ?_ (callV rfl rfl rfl rfl rfl rfl rfl hnt rfl (hsn) (zzx hnt rfl ?_ (Lex.nil _)))) ?_
      · exact zzt
      · exact zzt
      repeat' first | refine zzs ?_ | refine zzb ?_ | refine zzk ?_
      refine tr_cond rfl (fun hc => ?_) (fun hc => ?_)
      · exact absurd hc Bool.noConfusion
      repeat' first | refine zzs ?_ | refine zzb ?_ | refine zzk ?_
      refine tr_region (zzx hnt rfl ?_ (callV rfl rfl rfl rfl rfl rfl rfl hnt rfl (hz) (zzx hnt rfl ?_ (Lex.nil _)))) ?_
      · exact zzt
      · exact zzt
      exact tr_ret ⟨.inr rfl, _, _, rfl, (by (repeat' first | exact trivial | exact Nat.le_of_ble_eq_true rfl | exact Nat.le_of_eq w7.symm | exact Nat.le_of_eq w8.symm | apply And.intro)), congrArg (fun x => D.tup [(true, Cs.es x), (true, Cs.es _)]) (tk7 _)⟩
  exact absurd hc (by decide)
set_option maxRecDepth 10000 in
set_option maxHeartbeats 2000000 in
theorem climb_neg (l : List Tok) (ho : tksOk l) (n : Nat) (s : Spot) (h1 : seesF l s tokM = true → Clb l 7 ⟨s.p + 1, s.e⟩ (climbF l n 7 ⟨s.p + 1, s.e⟩)) (h2 : FnG Tryd.prog 19 gZ [.agg (.es (eSp l s))] (outX l (groundF l (climbF l n 0) s))) : FnG Tryd.prog 12 (gZ) [.agg (.es (eSp l s)), .one (.e (eI 7))] (outX l (climbF l (n + 1) 7 s)) := by
  refine fn_introG (T := tab) tOk Tryd.func12 rfl (by kernel_rfl) (by simp [Tryd.ntmps12]) ?_
  intro X hX
  have hnt : X.nt = 99 := hX
  clear hX
  have hm := ho.1
  repeat' first | refine zzs ?_ | refine zzr hnt rfl ?_ ?_ | refine zzd hnt rfl ?_ ?_ | refine zzb ?_ | refine zzk ?_
  · exact zzt
  · exact zzt
  · exact zzt
  repeat' first | refine zzs ?_ | refine zzb ?_ | refine zzk ?_
  refine tr_cond rfl (fun hc => ?_) (fun hc => ?_)
  · exact absurd hc (by decide)
  repeat' first | refine zzs ?_ | refine zzr hnt rfl ?_ ?_ | refine zzd hnt rfl ?_ ?_ | refine zzb ?_ | refine zzk ?_
  · exact zzt
  repeat' first | refine zzs ?_ | refine zzb ?_ | refine zzk ?_
  refine tr_cond rfl (fun hc => ?_) (fun hc => ?_)
  · have hsn := sees_fn l s [45] tokM [] tokens_a
    cases hs : seesF l s tokM with
    | true =>
      have hE : climbF l (n + 1) 7 s = (.mk 3 val0 [] [(climbF l n 7 ⟨s.p + 1, s.e⟩).1], (climbF l n 7 ⟨s.p + 1, s.e⟩).2) := by
        rw [climbF]
        simp [hs, past_yes hs]
      have hz := h1 hs
      have hp := pstM l hm s
      unfold Pst at hp
      unfold Clb at hz
      rw [past_yes hs] at hp
      rw [hE]
      generalize climbF l n 7 ⟨s.p + 1, s.e⟩ = r at *
      obtain ⟨e1, s1⟩ := r
      have w7 : (Cs.es (eEx e1)).len = 7 := by rw [eEx_eq]; rfl
      have w8 : (Cs.es (List.take 7 (List.drop 0 (eEx e1)))).len = 7 := by rw [tk7]; exact w7
      rw [hs] at hsn
      repeat' first | refine zzs ?_ | refine zzb ?_ | refine zzk ?_
      refine tr_region (zzx hnt rfl ?_ (callV rfl rfl rfl rfl rfl rfl rfl hnt rfl (hsn) (zzx hnt rfl ?_ (Lex.nil _)))) ?_
      · exact zzt
      · exact zzt
      repeat' first | refine zzs ?_ | refine zzb ?_ | refine zzk ?_
      refine tr_cond rfl (fun hc => ?_) (fun hc => ?_)
      · repeat' first | refine zzs ?_ | refine zzb ?_ | refine zzk ?_
        refine tr_region (zzx hnt rfl ?_ (callV rfl rfl rfl rfl rfl rfl rfl hnt rfl (hp) (zzx hnt rfl ?_ (callV rfl rfl rfl rfl rfl rfl rfl hnt rfl (hz) (zzx hnt rfl ?_ (Lex.nil _)))))) ?_
        · exact zzt
        · exact zzt
        · exact zzt
        repeat' first | refine zzs ?_ | refine zzb ?_ | refine zzk ?_
        first | refine zzr hnt rfl ?_ ?_ | refine zzd hnt rfl ?_ ?_
        · exact zza
        refine tr_le (le_box 4 rfl rfl rfl) ?_
        exact tr_ret ⟨.inr rfl, _, _, rfl, (by (repeat' first | exact trivial | exact Nat.le_of_ble_eq_true rfl | exact Nat.le_of_eq w7.symm | exact Nat.le_of_eq w8.symm | apply And.intro)), congrArg (fun x => D.tup [(true, Cs.es x), (true, Cs.es _)]) (by rw [eEx_mk, tk7]; rfl)⟩
      exact absurd hc Bool.noConfusion
    | false =>
      have hE : climbF l (n + 1) 7 s = groundF l (climbF l n 0) s := by
        rw [climbF]
        simp [hs]
      have hz := h2
      rw [hE]
      generalize groundF l (climbF l n 0) s = r at *
      obtain ⟨e1, s1⟩ := r
      have w7 : (Cs.es (eEx e1)).len = 7 := by rw [eEx_eq]; rfl
      have w8 : (Cs.es (List.take 7 (List.drop 0 (eEx e1)))).len = 7 := by rw [tk7]; exact w7
      rw [hs] at hsn
      repeat' first | refine zzs ?_ | refine zzb ?_ | refine zzk ?_
      refine tr_region (zzx hnt rfl ?_ (callV rfl rfl rfl rfl rfl rfl rfl hnt rfl (hsn) (zzx hnt rfl ?_ (Lex.nil _)))) ?_
      · exact zzt
      · exact zzt
      repeat' first | refine zzs ?_ | refine zzb ?_ | refine zzk ?_
      refine tr_cond rfl (fun hc => ?_) (fun hc => ?_)
      · exact absurd hc Bool.noConfusion
      repeat' first | refine zzs ?_ | refine zzb ?_ | refine zzk ?_
      refine tr_region (zzx hnt rfl ?_ (callV rfl rfl rfl rfl rfl rfl rfl hnt rfl (hz) (zzx hnt rfl ?_ (Lex.nil _)))) ?_
      · exact zzt
      · exact zzt
      exact tr_ret ⟨.inr rfl, _, _, rfl, (by (repeat' first | exact trivial | exact Nat.le_of_ble_eq_true rfl | exact Nat.le_of_eq w7.symm | exact Nat.le_of_eq w8.symm | apply And.intro)), congrArg (fun x => D.tup [(true, Cs.es x), (true, Cs.es _)]) (tk7 _)⟩
  exact absurd hc (by decide)
end Go.Proofs.YtcdifgacoleckaaDoor
namespace Go.Proofs.YtcdifgacoleckaaDoor
open Go Go.RowKit Go.Proofs.YtcdifgacoleckaaDoor.Ab
set_option linter.unusedSimpArgs false
set_option linter.unusedVariables false

structure ClS where
  e : Ex
  t : Spot
  k : Nat
set_option maxRecDepth 10000 in
set_option maxHeartbeats 2000000 in
theorem climb_mid (l : List Tok) (ho : tksOk l) (n lv : Nat) (hv : lv = 0 ∨ lv = 1 ∨ lv = 3 ∨ lv = 4 ∨ lv = 5 ∨ lv = 6) (s : Spot) (hsp : s.p ≤ l.length) (h1 : Clb l (lv + 1) s (climbF l n (lv + 1) s)) (h2 : s.e = 0 → ∀ p, s.p < p → p ≤ l.length → Clb l (lv + 1) ⟨p, 0⟩ (climbF l n (lv + 1) ⟨p, 0⟩)) : FnG Tryd.prog 12 (gZ) [.agg (.es (eSp l s)), .one (.e (eI (lv : Int)))] (outX l (climbF l (n + 1) lv s)) := by
  refine fn_introG (T := tab) tOk Tryd.func12 rfl (by kernel_rfl) (by simp [Tryd.ntmps12]) ?_
  intro X hX
  have hnt : X.nt = 99 := hX
  clear hX
  have hm := ho.1
  have hm' : l.length ≤ 9223372036854775807 := Nat.le_trans hm (by decide)
  have hE : climbF l (n + 1) lv s = if lv = 3 ∧ seesF l (climbF l n (lv + 1) s).2 tokIs = true then (.mk 17 val0 [] [(climbF l n (lv + 1) s).1], pastF l (climbF l n (lv + 1) s).2 [tokIs, tokNl]) else lpF l (climbF l n (lv + 1)) lv (l.length + 1) (climbF l n (lv + 1) s).1 (climbF l n (lv + 1) s).2 := by
    rw [climbF, if_neg (by omega), if_neg (by omega)]
  have hW : E.v (.int .i64 (IntKind.i64.wrap ((lv : Int) + 1))) = eI ((lv + 1 : Nat) : Int) := by
    rw [wrap64_id (by omega) (by omega)]
    rfl
  have hfw := climb_fwd l n (lv + 1)
  have hbd := fun (s : Spot) (h : s.e ≠ 0) => climb_bad (l := l) h n (lv + 1)
  unfold Clb at h1
  rw [← hW] at h1
  rw [hE]
  clear hE
  have hfw1 := hfw s
  have hb1 := hbd s
  generalize climbF l n (lv + 1) = F at *
  generalize hr1 : F s = r1 at *
  generalize hwh : (if lv = 3 ∧ seesF l r1.2 tokIs = true then (Ex.mk 17 val0 [] [r1.1], pastF l r1.2 [tokIs, tokNl]) else lpF l F lv (l.length + 1) r1.1 r1.2) = wh at *
  obtain ⟨e1, s1⟩ := r1
  have hwh : (if lv = 3 ∧ seesF l s1 tokIs = true then (Ex.mk 17 val0 [] [e1], pastF l s1 [tokIs, tokNl]) else lpF l F lv (l.length + 1) e1 s1) = wh := hwh
  have hse : s1.e = 0 → s.e = 0 := fun h => Classical.byContradiction fun hn => by
    have h3 := hb1 hn
    simp only [Prod.mk.injEq] at h3
    rw [h3.2] at h
    exact hn h
  have hp1 : s.p ≤ s1.p := hfw1.1
  have hp2 : s1.p ≤ l.length := hfw1.2 hsp
  have w7 : (Cs.es (eEx e1)).len = 7 := by rw [eEx_eq]; rfl
  have w8 : (Cs.es (List.take 7 (List.drop 0 (eEx e1)))).len = 7 := by rw [tk7]; exact w7
  repeat' first | refine zzs ?_ | refine zzr hnt rfl ?_ ?_ | refine zzd hnt rfl ?_ ?_ | refine zzb ?_ | refine zzk ?_
  · exact zzt
  · exact zzt
  · exact zzt
  repeat' first | refine zzs ?_ | refine zzb ?_ | refine zzk ?_
  refine tr_cond rfl (fun hc => ?_) (fun hc => ?_)
  · have hc : (lv : Int) = 2 := of_decide_eq_true hc
    omega
  repeat' first | refine zzs ?_ | refine zzr hnt rfl ?_ ?_ | refine zzd hnt rfl ?_ ?_ | refine zzb ?_ | refine zzk ?_
  · exact zzt
  repeat' first | refine zzs ?_ | refine zzb ?_ | refine zzk ?_
  refine tr_cond rfl (fun hc => ?_) (fun hc => ?_)
  · have hc : (lv : Int) = 7 := of_decide_eq_true hc
    omega
  repeat' first | refine zzs ?_ | refine zzb ?_ | refine zzk ?_
  refine tr_region (zzx hnt rfl ?_ (callV rfl rfl rfl rfl rfl rfl rfl hnt rfl (h1) (zzx hnt rfl ?_ (Lex.nil _)))) ?_
  · exact zzt
  · exact zzt
  have hsn := sees_fn l s1 [73, 83] tokIs [] (tk1 flIs (by decide))
  repeat' first | refine zzs ?_ | refine zzb ?_ | refine zzk ?_
  refine tr_region (zzx hnt rfl ?_ (callVG rfl rfl rfl rfl rfl rfl hnt rfl (fun hq => ?_) rfl (fun hq => hsn) (zzx hnt rfl ?_ (Lex.nil _)))) ?_
  · exact zza
  · exact zza
  · exact zza
  repeat' first | refine zzs ?_ | refine zzb ?_ | refine zzk ?_
  refine tr_cond rfl (fun hc => ?_) (fun hc => ?_)
  · simp only [zz1, zz2, zz3, zz4, zz5, zz6, zz7, zz8] at hc
    have hc : (lv : Int) = 3 ∧ seesF l s1 tokIs = true := hc
    rw [if_pos ⟨by omega, hc.2⟩] at hwh
    subst hwh
    have hp := pstIs l hm s1
    unfold Pst at hp
    repeat' first | refine zzs ?_ | refine zzb ?_ | refine zzk ?_
    refine tr_draw (T := tab) tOk hnt mixedR (lexD (T := tab) rfl ?_ (callVD rfl rfl rfl rfl rfl rfl rfl rfl rfl (hp) (lexD (T := tab) rfl ?_ (.nil _)))) (by first | decide +kernel | kernel_rfl) ?_
    · exact zza
    · exact zza
    refine tr_le (le_box 4 rfl rfl rfl) ?_
    exact tr_ret ⟨.inr rfl, _, _, rfl, (by (repeat' first | exact trivial | exact Nat.le_of_ble_eq_true rfl | exact Nat.le_of_eq w7.symm | exact Nat.le_of_eq w8.symm | apply And.intro)), congrArg (fun x => D.tup [(true, Cs.es x), (true, Cs.es _)]) (by rw [eEx_mk, tk7]; rfl)⟩
  simp only [zz1, zz2, zz3, zz4, zz5, zz6, zz7, zz8] at hc
  have hc : ¬ (lv : Int) = 3 ∨ seesF l s1 tokIs = false := by
    rcases hc with hc | hc
    · exact .inl hc
    · exact .inr (by simpa using hc)
  rw [if_neg (by
    rintro ⟨q1, q2⟩
    rcases hc with hc | hc
    · omega
    · rw [q2] at hc; exact Bool.noConfusion hc)] at hwh
  repeat' first | refine zzs ?_ | refine zzb ?_ | refine zzk ?_
  refine tr_loop (σ := ClS) (fun x => St.of [(1, .one (.e (eI (lv : Int)))), (4, .one (.ptr 4 0 0)), (5, .one (.ptr 5 0 0)), (10, .one (.ptr 10 0 0)), (11, .one (.ptr 11 0 0)), ((1000000 + 0), .one (.eptr mkE)), ((1000000 + 1), .one (.eptr spE)), ((1000000 + 3), .one (.eptr fsE)), ((1000000 + 4), .one (.eptr acE))] [(4, ⟨0, .box (.ds [.e (eI 0), .e (eI 0), .e (eI 0), .e (eQ 0), .e (eT []), .e (eT []), .nil]), 0⟩), (5, ⟨0, .box (.ds [.nil, .e (eI 0), .e (eI 0)]), 0⟩), (10, ⟨0, .box (.es (eEx x.e)), 0⟩), (11, ⟨0, .box (.es (eSp l x.t)), 0⟩)]) (fun x => s.p ≤ x.t.p ∧ x.t.p ≤ l.length ∧ (x.t.e = 0 → s.e = 0) ∧ l.length + 1 ≤ x.k + x.t.p ∧ wh = lpF l F lv x.k x.e x.t) (fun x => x.k) (⟨e1, s1, l.length + 1⟩) (le_of (ad := []) ⟨zzl, zzl, zzl, zzl, zzl, zzl, zzl, zzl, zzl, trivial⟩ (memOk_box rfl rfl ⟨rfl, rfl, rfl, rfl, rfl, rfl, trivial, trivial⟩ (memOk_box rfl rfl ⟨trivial, rfl, rfl, trivial⟩ (memOk_box rfl rfl rfl (memOk_box rfl rfl rfl trivial))))) ⟨hp1, hp2, hse, Nat.le_add_right _ _, hwh.symm⟩ ?_
  rintro ⟨e, t, k⟩ ⟨hj1, hj2, hj3, hj4, hj5⟩
  have hj1 : s.p ≤ t.p := hj1
  have hj2 : t.p ≤ l.length := hj2
  have hj3 : t.e = 0 → s.e = 0 := hj3
  have hj4 : l.length + 1 ≤ k + t.p := hj4
  have hj5 : wh = lpF l F lv k e t := hj5
  obtain ⟨k1, rfl⟩ : ∃ k1, k = k1 + 1 := ⟨k - 1, by omega⟩
  repeat' first | refine zzs ?_ | refine zzr hnt rfl ?_ ?_ | refine zzd hnt rfl ?_ ?_ | refine zzb ?_ | refine zzk ?_
  · exact zzt
  repeat' first | refine zzs ?_ | refine zzb ?_ | refine zzk ?_
  refine tr_cond rfl (fun hc => ?_) (fun hc => ?_)
  · have hte : t.e = 0 := of_decide_eq_true hc
    have hop := opAt_fn l t lv hv
    have hse := hj3 hte
    obtain ⟨p, z⟩ := t
    have hte : z = 0 := hte
    subst hte
    repeat' first | refine zzs ?_ | refine zzb ?_ | refine zzk ?_
    refine tr_region (zzx hnt rfl ?_ (callV rfl rfl rfl rfl rfl rfl rfl hnt rfl (hop) (zzx hnt rfl ?_ (Lex.nil _)))) ?_
    · exact zzt
    · exact zzt
    rw [lpF, if_neg (fun h => h rfl)] at hj5
    generalize hat : opAtF l ⟨p, 0⟩ lv = op at *
    repeat' first | refine zzs ?_ | refine zzr hnt rfl ?_ ?_ | refine zzd hnt rfl ?_ ?_ | refine zzb ?_ | refine zzk ?_
    · exact zzt
    repeat' first | refine zzs ?_ | refine zzb ?_ | refine zzk ?_
    refine tr_cond rfl (fun hc => ?_) (fun hc => ?_)
    · have hc : op = 0 := of_decide_eq_true hc
      rw [if_pos hc] at hj5
      rw [hj5]
      refine tr_exit ?_
      have w7 : (Cs.es (eEx e)).len = 7 := by rw [eEx_eq]; rfl
      have w8 : (Cs.es (List.take 7 (List.drop 0 (eEx e)))).len = 7 := by rw [tk7]; exact w7
      repeat' first | refine zzs ?_ | refine zzb ?_ | refine zzk ?_
      first | refine zzr hnt rfl ?_ ?_ | refine zzd hnt rfl ?_ ?_
      · exact zza
      exact tr_ret ⟨.inr rfl, _, _, rfl, (by (repeat' first | exact trivial | exact Nat.le_of_ble_eq_true rfl | exact Nat.le_of_eq w7.symm | exact Nat.le_of_eq w8.symm | apply And.intro)), congrArg (fun x => D.tup [(true, Cs.es x), (true, Cs.es _)]) (tk77 _)⟩
    have hc : ¬ op = 0 := of_decide_eq_false hc
    rw [if_neg hc] at hj5
    have hlt : p < l.length := (opAt_lt (l := l) (s := ⟨p, 0⟩) (lv := lv) (by rw [hat]; exact hc)).2
    have hz := h2 hse (p + 1) (by have : s.p ≤ p := hj1; omega) hlt
    have hfw2 := hfw ⟨p + 1, 0⟩
    have hb2 := hbd ⟨p + 1, 0⟩
    unfold Clb at hz
    rw [← hW] at hz
    have hi := spInc l 0 (p := p) (by omega)
    have hz : FnG Tryd.prog 12 gZ [.agg (.es [eTks l, E.v (.int .i64 (IntKind.i64.wrap (((p : Nat) : Int) + 1))), eI 0]), .one (.e (E.v (.int .i64 (IntKind.i64.wrap ((lv : Int) + 1)))))] (outX l (F ⟨p + 1, 0⟩)) := by
      rw [hi]
      exact hz
    generalize hr2 : F ⟨p + 1, 0⟩ = r2 at *
    obtain ⟨e2, s2⟩ := r2
    have hj5 : wh = if lv = 3 then (.mk op val0 [] [e, e2], s2) else lpF l F lv k1 (.mk op val0 [] [e, e2]) s2 := hj5
    have v7 : (Cs.es (eEx e2)).len = 7 := by rw [eEx_eq]; rfl
    have v8 : (Cs.es (List.take 7 (List.drop 0 (eEx e2)))).len = 7 := by rw [tk7]; exact v7
    have x7 : (Cs.es (eEx e)).len = 7 := by rw [eEx_eq]; rfl
    repeat' first | refine zzs ?_ | refine zzr hnt rfl ?_ ?_ | refine zzd hnt rfl ?_ ?_ | refine zzb ?_ | refine zzk ?_
    · exact zzt
    repeat' first | refine zzs ?_ | refine zzb ?_ | refine zzk ?_
    refine tr_region (zzx hnt rfl ?_ (callV rfl rfl rfl rfl rfl rfl rfl hnt rfl (hz) (zzx hnt rfl ?_ (Lex.nil _)))) ?_
    · exact zza
    · exact zza
    refine tr_le (s' := St.of [(1, .one (.e (eI (lv : Int)))), (4, .one (.ptr 4 0 0)), (5, .one (.ptr 5 0 0)), (10, .one (.ptr 10 0 0)), (11, .one (.ptr 11 0 0)), (12, .one (.e (eI op))), (13, .one (.ptr 13 0 0)), (14, .one (.ptr 14 0 0)), ((1000000 + 0), .one (.eptr mkE)), ((1000000 + 1), .one (.eptr spE)), ((1000000 + 3), .one (.eptr fsE)), ((1000000 + 4), .one (.eptr acE))] [(4, ⟨0, .box (.ds [.e (eI 0), .e (eI 0), .e (eI 0), .e (eQ 0), .e (eT []), .e (eT []), .nil]), 0⟩), (5, ⟨0, .box (.ds [.nil, .e (eI 0), .e (eI 0)]), 0⟩), (10, ⟨0, .box (.es [eI e.op, eI e.v.k, eI e.v.i, eQ e.v.b, eT e.v.t, eT e.n, .sl (eExs e.ar)]), 0⟩), (11, ⟨0, .box (.es (eSp l ⟨p + 1, 0⟩)), 0⟩), (13, ⟨0, .box (.es [eI e2.op, eI e2.v.k, eI e2.v.i, eQ e2.v.b, eT e2.v.t, eT e2.n, .sl (eExs e2.ar)]), 0⟩), (14, ⟨0, .box (.es (eSp l s2)), 0⟩)]) (le_of (ad := []) ⟨zzl, zzl, zzl, zzl, zzl, zzl, zzl, zzl, zzl, zzl, zzl, zzl, trivial⟩ (memOk_box rfl rfl ⟨rfl, rfl, rfl, rfl, rfl, rfl, trivial, trivial⟩ (memOk_box rfl rfl ⟨trivial, rfl, rfl, trivial⟩ (memOk_box rfl rfl (eEx_eq e) (memOk_box rfl rfl hi (memOk_box rfl rfl (eEx_eq e2) (memOk_box rfl rfl rfl trivial))))))) ?_
    repeat' first | refine zzs ?_ | refine zzb ?_ | refine zzk ?_
    first | refine zzr hnt rfl ?_ ?_ | refine zzd hnt rfl ?_ ?_
    · exact zza
    refine tr_le (le_box 10 rfl rfl rfl) ?_
    have hx : [eI op, eI 0, eI 0, eQ 0, eT [], eT [], .sl [[eI e.op, eI e.v.k, eI e.v.i, eQ e.v.b, eT e.v.t, eT e.n, .sl (eExs e.ar)], [eI e2.op, eI e2.v.k, eI e2.v.i, eQ e2.v.b, eT e2.v.t, eT e2.n, .sl (eExs e2.ar)]]] = eEx (.mk op val0 [] [e, e2]) := by
      rw [eEx_mk]
      show _ = [eI op, eI 0, eI 0, eQ 0, eT [], eT [], .sl [eEx e, eEx e2]]
      rw [eEx_eq e, eEx_eq e2]
    repeat' first | refine zzs ?_ | refine zzr hnt rfl ?_ ?_ | refine zzd hnt rfl ?_ ?_ | refine zzb ?_ | refine zzk ?_
    · exact zzt
    repeat' first | refine zzs ?_ | refine zzb ?_ | refine zzk ?_
    refine tr_cond rfl (fun hc => ?_) (fun hc => ?_)
    · have hc : (lv : Int) = 3 := of_decide_eq_true hc
      rw [if_pos (by omega)] at hj5
      subst hj5
      refine tr_exit ?_
      repeat' first | refine zzs ?_ | refine zzr hnt rfl ?_ ?_ | refine zzd hnt rfl ?_ ?_ | refine zzb ?_ | refine zzk ?_
      · exact zzt
      exact tr_ret ⟨.inr rfl, _, _, rfl, zzp, congrArg (fun x => D.tup [(true, Cs.es x), (true, Cs.es _)]) hx⟩
    have hc : ¬ (lv : Int) = 3 := of_decide_eq_false hc
    rw [if_neg (by omega)] at hj5
    repeat' first | refine zzs ?_ | refine zzb ?_ | refine zzk ?_
    refine ⟨⟨.mk op val0 [] [e, e2], s2, k1⟩, ⟨by have := hfw2.1; show s.p ≤ s2.p; have : p + 1 ≤ s2.p := this; have : s.p ≤ p := hj1; omega, hfw2.2 hlt, fun _ => hse, by have := hfw2.1; have : p + 1 ≤ s2.p := this; show l.length + 1 ≤ k1 + s2.p; have : l.length + 1 ≤ k1 + 1 + p := hj4; omega, hj5⟩, Nat.lt_succ_self _, le_of (ad := []) ⟨zzl, zzl, zzl, zzl, zzl, zzl, zzl, zzl, zzl, trivial⟩ (memOk_box rfl rfl ⟨rfl, rfl, rfl, rfl, rfl, rfl, trivial, trivial⟩ (memOk_box rfl rfl ⟨trivial, rfl, rfl, trivial⟩ (memOk_box rfl rfl hx (memOk_box rfl rfl rfl trivial))))⟩
  have hc : ¬ t.e = 0 := of_decide_eq_false hc
  rw [lp_bad hc] at hj5
  rw [hj5]
  refine tr_exit ?_
  have w7 : (Cs.es (eEx e)).len = 7 := by rw [eEx_eq]; rfl
  have w8 : (Cs.es (List.take 7 (List.drop 0 (eEx e)))).len = 7 := by rw [tk7]; exact w7
  repeat' first | refine zzs ?_ | refine zzb ?_ | refine zzk ?_
  first | refine zzr hnt rfl ?_ ?_ | refine zzd hnt rfl ?_ ?_
  · exact zza
  exact tr_ret ⟨.inr rfl, _, _, rfl, (by (repeat' first | exact trivial | exact Nat.le_of_ble_eq_true rfl | exact Nat.le_of_eq w7.symm | exact Nat.le_of_eq w8.symm | apply And.intro)), congrArg (fun x => D.tup [(true, Cs.es x), (true, Cs.es _)]) (tk77 _)⟩
end Go.Proofs.YtcdifgacoleckaaDoor
namespace Go.Proofs.YtcdifgacoleckaaDoor
open Go Go.RowKit Go.Proofs.YtcdifgacoleckaaDoor.Ab
set_option linter.unusedSimpArgs false
set_option linter.unusedVariables false

def Mz (l : List Tok) (s : Spot) (lv : Nat) : Nat := (if s.e = 0 then (l.length - s.p) * 8 else 0) + (8 - lv)
theorem mz_next {l : List Tok} {s : Spot} {t : Tok} (h : seesF l s t = true) {lv lv' n : Nat} (hn : Mz l s lv ≤ n + 1) (h7 : lv' ≤ 7) (hv : lv ≤ lv' + 1) : Mz l ⟨s.p + 1, s.e⟩ lv' ≤ n := by
  obtain ⟨h1, h2, _⟩ := sees_iff.1 h
  unfold Mz at *
  rw [if_pos h1] at *
  show (l.length - (s.p + 1)) * 8 + (8 - lv') ≤ n
  omega
theorem climb_all (l : List Tok) (ho : tksOk l) : ∀ (n lv : Nat) (s : Spot), lv ≤ 7 → s.p ≤ l.length → Mz l s lv ≤ n → Clb l lv s (climbF l n lv s)
  | 0, lv, s, h7, _, hn => by unfold Mz at hn; omega
  | n + 1, lv, s, h7, hp, hn => by
    have ih := climb_all l ho n
    by_cases h2 : lv = 2
    · subst h2
      exact climb_not l ho n s (fun hs => ih 2 _ (by omega) (sees_iff.1 hs).2.1 (mz_next hs hn (by omega) (by omega))) (fun hs => ih 3 s (by omega) hp (by unfold Mz at *; omega))
    by_cases h77 : lv = 7
    · subst h77
      refine climb_neg l ho n s (fun hs => ih 7 _ (by omega) (sees_iff.1 hs).2.1 (mz_next hs hn (by omega) (by omega))) ?_
      refine ground_fn l ho s (climbF l n 0) (climb_fwd l n 0) fun he s' h1 h2 => ih 0 s' (by omega) h2 ?_
      unfold Mz at *
      rw [if_pos he] at hn
      split <;> omega
    refine climb_mid l ho n lv (by omega) s hp (ih (lv + 1) s (by omega) hp (by unfold Mz at *; omega)) fun he p h1 h2' => ih (lv + 1) ⟨p, 0⟩ (by omega) h2' ?_
    unfold Mz at *
    rw [if_pos he] at hn
    rw [if_pos rfl]
    show (l.length - p) * 8 + (8 - (lv + 1)) ≤ n
    omega
def fnOf (lv : Nat) : Nat := match lv with
  | 0 => 11
  | 1 => 16
  | 2 => 28
  | 3 => 42
  | 4 => 53
  | 5 => 65
  | 6 => 71
  | _ => 72
theorem rd_all (l : List Tok) (ho : tksOk l) : ∀ (n lv p : Nat), lv ≤ 7 → p ≤ l.length → (l.length - p) * 8 + (8 - lv) ≤ n → Rds l (fnOf lv) (climbF l n lv) p
  | 0, lv, p, h7, _, hn => by omega
  | n + 1, lv, p, h7, hp, hn => by
    have ih := rd_all l ho n
    rcases (by omega : lv = 0 ∨ lv = 1 ∨ lv = 2 ∨ lv = 3 ∨ lv = 4 ∨ lv = 5 ∨ lv = 6 ∨ lv = 7) with rfl | rfl | rfl | rfl | rfl | rfl | rfl | rfl
    · exact lv0_fn l ho.1 n p hp fun q h1 h2 => ih 1 q (by omega) h2 (by omega)
    · exact lv1_fn l ho.1 n p hp fun q h1 h2 => ih 2 q (by omega) h2 (by omega)
    · exact lv2_fn l ho.1 n p hp (fun q h1 h2 => ih 2 q (by omega) h2 (by omega)) (ih 3 p (by omega) hp (by omega))
    · exact lv3_fn l ho.1 n p hp fun q h1 h2 => ih 4 q (by omega) h2 (by omega)
    · exact lv4_fn l ho.1 n p hp fun q h1 h2 => ih 5 q (by omega) h2 (by omega)
    · exact lv5_fn l ho.1 n p hp fun q h1 h2 => ih 6 q (by omega) h2 (by omega)
    · exact lv6_fn l ho.1 n p hp fun q h1 h2 => ih 7 q (by omega) h2 (by omega)
    · exact lv7_fn l ho.1 n p hp (fun q h1 h2 => ih 7 q (by omega) h2 (by omega)) (first_fn l ho p hp (climbF l n 0) (fun s h => climb_bad h n 0) (climb_fwd l n 0) fun q h1 h2 => ih 0 q (by omega) h2 (by omega))
/-- what both answer of an expression that is read -/
def rdF (l : List Tok) (fr : Int) : Ex × Int × Int × Int :=
  if fr < 0 ∨ (l.length : Int) < fr then (ex0, 0, 0, 6)
  else if (climbF l (l.length * 8 + 8) 0 ⟨fr.toNat, 0⟩).2.e = 0 then ((climbF l (l.length * 8 + 8) 0 ⟨fr.toNat, 0⟩).1, ((climbF l (l.length * 8 + 8) 0 ⟨fr.toNat, 0⟩).2.p : Int), 0, 0)
  else (ex0, 0, ((climbF l (l.length * 8 + 8) 0 ⟨fr.toNat, 0⟩).2.p : Int), (climbF l (l.length * 8 + 8) 0 ⟨fr.toNat, 0⟩).2.e)
abbrev outR (r : Ex × Int × Int × Int) : D := .tup [(true, .es (eEx r.1)), (false, .es [eI r.2.1]), (false, .es [eI r.2.2.1]), (false, .es [eI r.2.2.2])]
set_option maxRecDepth 10000 in
set_option maxHeartbeats 2000000 in
theorem read_fn (l : List Tok) (ho : tksOk l) (fr : Int) : FnG Tryd.prog 6 (gZ) [.one (.e (eTks l)), .one (.e (eI fr))] (outR (rdF l fr)) := by
  refine fn_introG (T := tab) tOk Tryd.func6 rfl (by kernel_rfl) (by simp [Tryd.ntmps6]) ?_
  intro X hX
  have hnt : X.nt = 37 := hX
  clear hX
  have h1 : (l.map eTok).length = l.length := List.length_map ..
  repeat' first | refine zzs ?_ | refine zzr hnt rfl ?_ ?_ | refine zzd hnt rfl ?_ ?_ | refine zzb ?_ | refine zzk ?_
  · exact zzt
  · exact zzt
  repeat' first | refine zzs ?_ | refine zzb ?_ | refine zzk ?_
  refine tr_cond rfl (fun hc => ?_) (fun hc => ?_)
  · simp only [zz1, zz2, zz3, zz4, zz5, zz6, zz7, zz8] at hc
    (try simp only [h1] at hc)
    (try simp only [zz1, zz2, zz3, zz4, zz5, zz6, zz7, zz8] at hc)
    have hr : rdF l fr = (ex0, 0, 0, 6) := by
      unfold rdF
      rw [if_pos (by omega)]
    rw [hr]
    repeat' first | refine zzs ?_ | refine zzr hnt rfl ?_ ?_ | refine zzd hnt rfl ?_ ?_ | refine zzb ?_ | refine zzk ?_
    · exact zzt
    exact tr_ret ⟨.inr rfl, _, _, rfl, zzp, congrArg (fun x => D.tup [(true, Cs.es x), (false, Cs.es _), (false, Cs.es _), (false, Cs.es _)]) (by rw [eEx_eq]; rfl)⟩
  simp only [zz1, zz2, zz3, zz4, zz5, zz6, zz7, zz8] at hc
  (try simp only [h1] at hc)
  (try simp only [zz1, zz2, zz3, zz4, zz5, zz6, zz7, zz8] at hc)
  obtain ⟨p, rfl⟩ : ∃ p : Nat, fr = (p : Int) := ⟨fr.toNat, by omega⟩
  have hp : p ≤ l.length := by omega
  have hz := climb_all l ho (l.length * 8 + 8) 0 ⟨p, 0⟩ (by omega) hp (by unfold Mz; rw [if_pos rfl]; show (l.length - p) * 8 + (8 - 0) ≤ _; omega)
  unfold Clb at hz
  generalize hw : rdF l (p : Int) = w at *
  unfold rdF at hw
  rw [if_neg (by omega), Int.toNat_natCast] at hw
  generalize climbF l (l.length * 8 + 8) 0 ⟨p, 0⟩ = r at *
  obtain ⟨e1, s1⟩ := r
  have w7 : (Cs.es (eEx e1)).len = 7 := by rw [eEx_eq]; rfl
  have w8 : (Cs.es (List.take 7 (List.drop 0 (eEx e1)))).len = 7 := by rw [tk7]; exact w7
  repeat' first | refine zzs ?_ | refine zzb ?_ | refine zzk ?_
  refine tr_region (zzx hnt rfl ?_ (callV rfl rfl rfl rfl rfl rfl rfl hnt rfl (hz) (zzx hnt rfl ?_ (Lex.nil _)))) ?_
  · exact zzt
  · exact zzt
  repeat' first | refine zzs ?_ | refine zzr hnt rfl ?_ ?_ | refine zzd hnt rfl ?_ ?_ | refine zzb ?_ | refine zzk ?_
  · exact zzt
  repeat' first | refine zzs ?_ | refine zzb ?_ | refine zzk ?_
  refine tr_cond rfl (fun hc => ?_) (fun hc => ?_)
  · have hc : (!decide (s1.e = 0)) = true := hc
    have hc : ¬ s1.e = 0 := by simpa using hc
    rw [if_neg hc] at hw
    subst hw
    repeat' first | refine zzs ?_ | refine zzr hnt rfl ?_ ?_ | refine zzd hnt rfl ?_ ?_ | refine zzb ?_ | refine zzk ?_
    · exact zzt
    exact tr_ret ⟨.inr rfl, _, _, rfl, zzp, congrArg (fun x => D.tup [(true, Cs.es x), (false, Cs.es _), (false, Cs.es _), (false, Cs.es _)]) (by rw [eEx_eq]; rfl)⟩
  have hc : (!decide (s1.e = 0)) = false := hc
  have hc : s1.e = 0 := by simpa using hc
  rw [if_pos hc] at hw
  subst hw
  repeat' first | refine zzs ?_ | refine zzb ?_ | refine zzk ?_
  first | refine zzr hnt rfl ?_ ?_ | refine zzd hnt rfl ?_ ?_
  · exact zza
  exact tr_ret ⟨.inr rfl, _, _, rfl, (by (repeat' first | exact trivial | exact Nat.le_of_ble_eq_true rfl | exact Nat.le_of_eq w7.symm | exact Nat.le_of_eq w8.symm | apply And.intro)), congrArg (fun x => D.tup [(true, Cs.es x), (false, Cs.es _), (false, Cs.es _), (false, Cs.es _)]) (tk77 _)⟩
end Go.Proofs.YtcdifgacoleckaaDoor
