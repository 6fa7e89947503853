/- What an expression says of a row: things. No condition. -/
import Derived.Test.YthnadkafegmacaaGreatDoorTEvP
namespace Go.Proofs.YthnadkafegmacaaGreatDoor
open Go Go.RowKit Go.Proofs.YthnadkafegmacaaGreatDoor.Ab
set_option linter.unusedSimpArgs false
set_option linter.unusedVariables false

/-! ### texts, one behind the other -/
theorem getD_appL {x y : Byt} {i : Nat} (h : i < x.length) : (x ++ y).getD i 0 = x.getD i 0 := by
  rw [List.getD_eq_getElem?_getD, List.getElem?_append_left h, ← List.getD_eq_getElem?_getD]
theorem bad2_if (x : Byt) : bad2 x = true ↔ x.length < 2 ∨ bI x 1 < alo (x.getD 0 0) ∨ (ahi (x.getD 0 0) : Int) < bI x 1 := by
  unfold bad2
  simp only [condT_tt, decide_eq_true_eq]
  omega
theorem bad3_if (x : Byt) : bad3 x = true ↔ x.length < 3 ∨ bI x 1 < alo (x.getD 0 0) ∨ (ahi (x.getD 0 0) : Int) < bI x 1 ∨ bI x 2 < 128 ∨ 191 < bI x 2 := by
  unfold bad3
  simp only [condT_tt, decide_eq_true_eq]
  omega
theorem bad4_if (x : Byt) : bad4 x = true ↔ x.length < 4 ∨ bI x 1 < alo (x.getD 0 0) ∨ (ahi (x.getD 0 0) : Int) < bI x 1 ∨ bI x 2 < 128 ∨ 191 < bI x 2 ∨ bI x 3 < 128 ∨ 191 < bI x 3 := by
  unfold bad4
  simp only [condT_tt, decide_eq_true_eq]
  omega
theorem stepU_app {x y : Byt} {k : Nat} (hx : x ≠ []) (h : stepU x = some k) : stepU (x ++ y) = some k := by
  have hpos : 0 < x.length := List.length_pos_iff.2 hx
  have hl : (x ++ y).length = x.length + y.length := List.length_append
  have e0 : (x ++ y).getD 0 0 = x.getD 0 0 := getD_appL hpos
  have e1 : 1 < x.length → bI (x ++ y) 1 = bI x 1 := fun h => by unfold bI; rw [getD_appL h]
  have e2 : 2 < x.length → bI (x ++ y) 2 = bI x 2 := fun h => by unfold bI; rw [getD_appL h]
  have e3 : 3 < x.length → bI (x ++ y) 3 = bI x 3 := fun h => by unfold bI; rw [getD_appL h]
  unfold stepU at h ⊢
  rw [e0]
  split at h
  · rename_i c; rw [if_pos c]; exact h
  rename_i c
  rw [if_neg c]
  split at h
  · rename_i c2
    rw [if_pos c2]
    split at h
    · cases h
    · rename_i hb
      have := mt (bad2_if x).2 hb
      rw [if_neg, ← h]
      intro hb2
      have := (bad2_if _).1 hb2
      rw [e0, hl, e1 (by omega)] at this
      omega
  rename_i c2
  rw [if_neg c2]
  split at h
  · rename_i c3
    rw [if_pos c3]
    split at h
    · cases h
    · rename_i hb
      have := mt (bad3_if x).2 hb
      rw [if_neg, ← h]
      intro hb2
      have := (bad3_if _).1 hb2
      rw [e0, hl, e1 (by omega), e2 (by omega)] at this
      omega
  rename_i c3
  rw [if_neg c3]
  split at h
  · rename_i c4
    rw [if_pos c4]
    split at h
    · cases h
    · rename_i hb
      have := mt (bad4_if x).2 hb
      rw [if_neg, ← h]
      intro hb2
      have := (bad4_if _).1 hb2
      rw [e0, hl, e1 (by omega), e2 (by omega), e3 (by omega)] at this
      omega
  · cases h
theorem stepU_len {x : Byt} {k : Nat} (hx : x ≠ []) (h : stepU x = some k) : k ≤ x.length := by
  have hpos : 0 < x.length := List.length_pos_iff.2 hx
  unfold stepU at h
  repeat' split at h
  all_goals first | (cases h; done) | skip
  · cases h; omega
  · rename_i hb; have := mt (bad2_if x).2 hb; cases h; omega
  · rename_i hb; have := mt (bad3_if x).2 hb; cases h; omega
  · rename_i hb; have := mt (bad4_if x).2 hb; cases h; omega
theorem vld_app : ∀ (n : Nat) (x y : Byt), x.length ≤ n → vld x = true → vld y = true → vld (x ++ y) = true
  | 0, x, y, h, _, hy => by rw [List.eq_nil_of_length_eq_zero (Nat.le_zero.1 h)]; exact hy
  | n + 1, x, y, h, hx, hy => by
    by_cases hn : x = []
    · rw [hn]; exact hy
    · have hs := vld_step hn
      cases hu : stepU x with
      | none => rw [hu, hx] at hs; cases hs
      | some k =>
        rw [hu, hx] at hs
        have hk := stepU_len hn hu
        have hp := stepU_pos hu
        rw [vld_step (fun e => hn (List.append_eq_nil_iff.1 e).1), stepU_app hn hu]
        show vld ((x ++ y).drop k) = true
        rw [List.drop_append_of_le_length hk]
        exact vld_app n _ _ (by rw [List.length_drop]; omega) hs.symm hy
/-! ### right values -/
def good (v : Val) : Prop := chk v = 0 ∧ fitI v.i
theorem good_null : good val0 := ⟨rfl, by decide, by decide⟩
theorem good_bV (b : Bool) : good (bV b) := ⟨chk_bV b, by cases b <;> decide, by cases b <;> decide⟩
theorem good_nV {n : Int} (h : fitI n) : good (nV n) := ⟨chk_nV n, h⟩
theorem good_trV {t : Int} (h0 : 0 ≤ t) (h2 : t ≤ 2) : good (trV t) := by
  rcases (by omega : t = 0 ∨ t = 1 ∨ t = 2) with rfl | rfl | rfl
  · exact good_bV false
  · exact good_null
  · exact good_bV true
theorem oneF_good {op : Int} {v : Val} (h : good v) (he : (oneF op v).2 = 0) : good (oneF op v).1 := by
  unfold oneF at he ⊢
  by_cases o17 : op = 17
  · rw [if_pos o17]; exact good_bV _
  rw [if_neg o17] at he ⊢
  by_cases k0 : v.k = 0
  · rw [if_pos k0]; exact good_null
  rw [if_neg k0] at he ⊢
  by_cases ka : v.k ≠ (if op = 4 then 1 else if op = 18 then 4 else 2)
  · rw [if_pos ka]; exact good_null
  rw [if_neg ka] at he ⊢
  have ka := Classical.not_not.1 ka
  by_cases o4 : op = 4
  · rw [if_pos o4] at ka ⊢
    rcases chk_bool h.1 ka with e | e <;> rw [e]
    · exact good_bV true
    · exact good_bV false
  rw [if_neg o4] at ka he ⊢
  by_cases o18 : op = 18
  · rw [if_pos o18] at ka ⊢
    refine good_nV ?_
    have h1 := (chk_cases h.1).2.2.1
    have h2 := runesF_len (strB v.t) (strB v.t).size 0
    rw [strB_size] at h2
    unfold fitI rcF runes
    rw [strB_size]
    omega
  rw [if_neg o18] at he ⊢
  by_cases hm : v.i = -9223372036854775808
  · rw [if_pos hm]; exact good_null
  rw [if_neg hm]
  have := h.2
  exact good_nV (by unfold fitI at *; omega)
theorem tO_rng {v : Val} (h : good v) (hk : v.k = 0 ∨ v.k = 1) : 0 ≤ tO v ∧ tO v ≤ 2 := (pt_ok h.1 hk).2
theorem tw2_good {op : Int} {v w : Val} (h : good v) (g : good w) (he : (tw2F op v w).2 = 0) : good (tw2F op v w).1 := by
  unfold tw2F at he ⊢
  by_cases o1 : op = 15 ∨ op = 16
  · rw [if_pos o1]
    unfold lgF
    split
    · exact good_null
    · rename_i hk
      have a := tO_rng h (by omega)
      have b := tO_rng g (by omega)
      refine good_trV ?_ ?_ <;> split <;> omega
  rw [if_neg o1] at he ⊢
  by_cases o20 : op = 20
  · rw [if_pos o20]; exact g
  rw [if_neg o20] at he ⊢
  by_cases o19 : op = 19
  · rw [if_pos o19] at he ⊢
    unfold jnF at he ⊢
    by_cases ha : adF 4 v w = false
    · rw [if_pos ha]; exact good_null
    rw [if_neg ha] at he ⊢
    by_cases hn : v.k = 0 ∨ w.k = 0
    · rw [if_pos hn]; exact good_null
    rw [if_neg hn] at he ⊢
    by_cases hl : 40 < (v.t ++ w.t).length
    · rw [if_pos hl]; exact good_null
    rw [if_neg hl]
    have hk := (adF_iff 4 v w).1 (by simpa using ha)
    obtain ⟨_, _, v1⟩ := chk_text h.1 (by omega)
    obtain ⟨_, _, w1⟩ := chk_text g.1 (by omega)
    exact ⟨chk_tV (by omega) (vld_app _ _ _ (Nat.le_refl _) v1 w1), show fitI 0 by decide⟩
  rw [if_neg o19] at he ⊢
  by_cases o5 : 5 ≤ op ∧ op ≤ 8
  · rw [if_pos o5] at he ⊢
    unfold rkF rkN
    repeat' split
    all_goals first | exact good_null | (refine good_nV ?_; assumption)
  rw [if_neg o5]
  unfold cpF
  repeat' split
  all_goals first | exact good_null | exact good_bV _
/-! ### things -/
def tyFix : Nat := 290
def tySol : Nat := 286
def tyTwn : Nat := 288
def tyPlc : Nat := 292
def tyMis : Nat := 294
def valVs (v : Val) : List Value := [.int .i64 v.k, .int .i64 v.i, .int .u64 (v.b.toNat : Int), .string (strB v.t)]
inductive Th where
  | fix (v : Val)
  | plc (i : Int)
  | mis
  | sol (op : Int) (a : Th)
  | twn (op : Int) (a b : Th)
def Th.val : Th → Value
  | .fix v => .iface tyFix (.agg (valVs v).toArray)
  | .plc i => .iface tyPlc (.agg [.int .i64 i].toArray)
  | .mis => .iface tyMis (.agg [].toArray)
  | .sol op a => .iface tySol (.agg [.int .i64 op, a.val].toArray)
  | .twn op a b => .iface tyTwn (.agg [.int .i64 op, a.val, b.val].toArray)
def Th.ty : Th → Nat
  | .fix _ => tyFix
  | .plc _ => tyPlc
  | .mis => tyMis
  | .sol _ _ => tySol
  | .twn _ _ _ => tyTwn
def Th.vs : Th → List Value
  | .fix v => valVs v
  | .plc i => [.int .i64 i]
  | .mis => []
  | .sol op a => [.int .i64 op, a.val]
  | .twn op a b => [.int .i64 op, a.val, b.val]
theorem Th.val_eq (x : Th) : x.val = .iface x.ty (.agg x.vs.toArray) := by cases x <;> rfl
theorem Th.val_one (x : Th) : x.val.oneCell' = true := by cases x <;> rfl
theorem Th.vs_one (x : Th) : x.vs.all (·.oneCell') = true := by
  cases x with
  | sol op a => simp only [Th.vs, List.all_cons, List.all_nil, a.val_one]; rfl
  | twn op a b => simp only [Th.vs, List.all_cons, List.all_nil, a.val_one, b.val_one]; rfl
  | _ => rfl
def Th.fn : Th → Nat
  | .fix _ => 343
  | .plc _ => 344
  | .mis => 345
  | .sol _ _ => 320
  | .twn _ _ _ => 324
theorem Th.meth (x : Th) : methB Tryz.prog x.ty "chirograph/eval.of" x.fn = true := by
  cases x with
  | fix v => show methB Tryz.prog tyFix "chirograph/eval.of" 343 = true; kernel_rfl
  | plc v => show methB Tryz.prog tyPlc "chirograph/eval.of" 344 = true; kernel_rfl
  | mis => show methB Tryz.prog tyMis "chirograph/eval.of" 345 = true; kernel_rfl
  | sol op a => show methB Tryz.prog tySol "chirograph/eval.of" 320 = true; kernel_rfl
  | twn op a b => show methB Tryz.prog tyTwn "chirograph/eval.of" 324 = true; kernel_rfl
def solF (op : Int) (x : Val × Int) : Val × Int := if x.2 ≠ 0 then (val0, x.2) else oneF op x.1
def cutB (op : Int) (v : Val) : Prop := (op = 20 ∧ v.k ≠ 0) ∨ (op = 15 ∧ v = bV false) ∨ (op = 16 ∧ v = bV true)
instance : DecidableEq Val := fun v w => if h : v.k = w.k ∧ v.i = w.i ∧ v.b = w.b ∧ v.t = w.t then .isTrue (Val.ext' h.1 h.2.1 h.2.2.1 h.2.2.2) else .isFalse fun e => h (by subst e; exact ⟨rfl, rfl, rfl, rfl⟩)
instance (op : Int) (v : Val) : Decidable (cutB op v) := inferInstanceAs (Decidable (_ ∨ _))
def twnF (op : Int) (x y : Val × Int) : Val × Int := if x.2 ≠ 0 then (val0, x.2) else if cutB op x.1 then (x.1, 0) else if y.2 ≠ 0 then (val0, y.2) else tw2F op x.1 y.1
def Th.ev (row : List Val) : Th → Val × Int
  | .fix v => (v, 0)
  | .plc i => (row.getD i.toNat val0, 0)
  | .mis => (val0, 5)
  | .sol op a => solF op (a.ev row)
  | .twn op a b => twnF op (a.ev row) (b.ev row)
def op1 (op : Int) : Prop := op = 3 ∨ op = 4 ∨ op = 17 ∨ op = 18
def op2 (op : Int) : Prop := (5 ≤ op ∧ op ≤ 16) ∨ op = 19 ∨ op = 20
def Th.ok (row : List Val) : Th → Prop
  | .fix v => good v
  | .plc i => 0 ≤ i ∧ i < row.length ∧ ∀ v ∈ row, good v
  | .mis => True
  | .sol op a => op1 op ∧ a.ok row
  | .twn op a b => op2 op ∧ a.ok row ∧ b.ok row
theorem Th.ev_good {row : List Val} : ∀ (x : Th), x.ok row → (x.ev row).2 = 0 → good (x.ev row).1
  | .fix v, h, _ => h
  | .plc i, h, _ => h.2.2 _ (getD_mem (by have := h.1; have := h.2.1; omega))
  | .mis, _, h => absurd (show (5 : Int) = 0 from h) (by decide)
  | .sol op a, h, he => by
    have ih := Th.ev_good a h.2
    unfold Th.ev solF at he ⊢
    split
    · exact good_null
    · rename_i hx
      rw [if_neg hx] at he
      exact oneF_good (ih (Classical.not_not.1 hx)) he
  | .twn op a b, h, he => by
    have ih := Th.ev_good a h.2.1
    have ih2 := Th.ev_good b h.2.2
    unfold Th.ev twnF at he ⊢
    split
    · exact good_null
    · rename_i hx
      rw [if_neg hx] at he
      split
      · exact ih (Classical.not_not.1 hx)
      · rename_i hc
        rw [if_neg hc] at he
        split
        · exact good_null
        · rename_i hy
          rw [if_neg hy] at he
          exact tw2_good (ih (Classical.not_not.1 hx)) (ih2 (Classical.not_not.1 hy)) he
end Go.Proofs.YthnadkafegmacaaGreatDoor
namespace Go.Proofs.YthnadkafegmacaaGreatDoor
open Go Go.RowKit Go.Proofs.YthnadkafegmacaaGreatDoor.Ab
set_option linter.unusedSimpArgs false
set_option linter.unusedVariables false

set_option maxRecDepth 10000 in
set_option maxHeartbeats 2000000 in
theorem fix_of (v : Val) (row : List Val) : FnG Tryz.prog 343 gK [.agg (.es ((valVs v).map .v)), .one (.e (eRow row))] (rVE (v, 0)) := by
  refine fn_introG (T := tab) tOk Tryz.func343 rfl (by kernel_rfl) (by simp [Tryz.ntmps343]) ?_
  intro X hX
  have hnt : X.nt = 8 := hX
  clear hX
  repeat' first | refine zzs ?_ | refine zzr hnt rfl ?_ ?_ | refine zzd hnt rfl ?_ ?_ | refine zzb ?_ | refine zzk ?_
  · exact zzt
  · exact zzt
  exact tr_ret ⟨.inr rfl, _, _, rfl, zzp, rfl⟩
set_option maxRecDepth 10000 in
set_option maxHeartbeats 2000000 in
theorem mis_of (row : List Val) : FnG Tryz.prog 345 gK [.agg (.es []), .one (.e (eRow row))] (rVE (val0, 5)) := by
  refine fn_introG (T := tab) tOk Tryz.func345 rfl (by kernel_rfl) (by simp [Tryz.ntmps345]) ?_
  intro X hX
  have hnt : X.nt = 7 := hX
  clear hX
  repeat' first | refine zzs ?_ | refine zzr hnt rfl ?_ ?_ | refine zzd hnt rfl ?_ ?_ | refine zzb ?_ | refine zzk ?_
  · exact zzt
  · exact zzt
  exact tr_ret ⟨.inr rfl, _, _, rfl, zzp, rfl⟩
set_option maxRecDepth 10000 in
set_option maxHeartbeats 2000000 in
theorem plc_of (i : Int) (row : List Val) (h0 : 0 ≤ i) (h1 : i < row.length) : FnG Tryz.prog 344 gK [.agg (.es [.v (.int .i64 i)]), .one (.e (eRow row))] (rVE (row.getD i.toNat val0, 0)) := by
  refine fn_introG (T := tab) tOk Tryz.func344 rfl (by kernel_rfl) (by simp [Tryz.ntmps344]) ?_
  intro X hX
  have hnt : X.nt = 11 := hX
  clear hX
  have hl : (row.map eVal).length = row.length := List.length_map ..
  have hg := rowGet row i.toNat (by omega)
  repeat' first | refine zzs ?_ | refine zzb ?_ | refine zzk ?_
  first | refine zzr hnt rfl ?_ ?_ | refine zzd hnt rfl ?_ ?_
  · exact zzt
  repeat' first | refine zzs ?_ | refine zzb ?_ | refine zzk ?_
  first | refine zzr hnt rfl ?_ ?_ | refine zzd hnt rfl ?_ ?_
  · rw [show ([E.v (Value.int IntKind.i64 i)].getD (0 + 0) E.dflt).int = i from rfl, hg]
    exact zza
  rw [show ([E.v (Value.int IntKind.i64 i)].getD (0 + 0) E.dflt).int = i from rfl, hg]
  exact tr_ret ⟨.inr rfl, _, _, rfl, zzp, rfl⟩
set_option maxRecDepth 10000 in
set_option maxHeartbeats 2000000 in
theorem sol_of (op : Int) (row : List Val) (ty f : Nat) (vs : List Value) (x : Val × Int) (hm : methB Tryz.prog ty "chirograph/eval.of" f = true) (hv : vs.all (·.oneCell') = true) (hfn : FnG Tryz.prog f gK [.agg (.es (vs.map .v)), .one (.e (eRow row))] (rVE x)) (hx : x.2 = 0 → good x.1) : FnG Tryz.prog 320 gK [.agg (.es [eI op, .v (.iface ty (.agg vs.toArray))]), .one (.e (eRow row))] (rVE (solF op x)) := by
  refine fn_introG (T := tab) tOk Tryz.func320 rfl (by kernel_rfl) (by simp [Tryz.ntmps320]) ?_
  intro X hX
  have hnt : X.nt = 25 := hX
  clear hX
  have hF : solF op x = solF op x := rfl
  conv at hF => rhs; unfold solF
  generalize solF op x = Z at *
  obtain ⟨v, e⟩ := x
  dsimp only at hF hx
  repeat' first | refine zzs ?_ | refine zzb ?_ | refine zzk ?_
  first | refine zzr hnt rfl ?_ ?_ | refine zzd hnt rfl ?_ ?_
  · exact zzt
  repeat' first | refine zzs ?_ | refine zzb ?_ | refine zzk ?_
  refine tr_region (zzx hnt rfl ?_ (callI rfl rfl rfl rfl rfl rfl rfl hnt rfl hm hv hfn (zzx hnt rfl ?_ (Lex.nil _)))) ?_
  · exact zzt
  · exact zzt
  repeat' first | refine zzs ?_ | refine zzr hnt rfl ?_ ?_ | refine zzd hnt rfl ?_ ?_ | refine zzb ?_ | refine zzk ?_
  · exact zzt
  repeat' first | refine zzs ?_ | refine zzb ?_ | refine zzk ?_
  refine tr_cond rfl (fun hc => ?_) (fun hc => ?_)
  · simp only [zz1, zz2, zz3, zz4, zz5, zz6, zz7, zz8] at hc
    have hc : e ≠ 0 := hc
    rw [if_pos hc] at hF
    subst hF
    repeat' first | refine zzs ?_ | refine zzr hnt rfl ?_ ?_ | refine zzd hnt rfl ?_ ?_ | refine zzb ?_ | refine zzk ?_
    · exact zzt
    exact tr_ret ⟨.inr rfl, _, _, rfl, zzp, rfl⟩
  simp only [zz1, zz2, zz3, zz4, zz5, zz6, zz7, zz8] at hc
  have hc : e = 0 := hc
  rw [if_neg (not_not_intro hc)] at hF
  subst hF
  have h := one_fn op v (hx hc).1 (hx hc).2
  generalize oneF op v = A at *
  repeat' first | refine zzs ?_ | refine zzb ?_ | refine zzk ?_
  refine tr_region (zzx hnt rfl ?_ (call rfl rfl rfl rfl rfl rfl rfl hnt (h) (zzx hnt rfl ?_ (Lex.nil _)))) ?_
  · exact zzt
  · exact zzt
  exact tr_ret ⟨.inr rfl, _, _, rfl, zzp, rfl⟩
theorem eqCut (v : Val) (b : Bool) : (eqD tab 9 28 (.agg (.es (List.take 4 (List.drop 0 (eVal v))))) (.agg (.es (eVal (bV b))))).1 := eqV1 v (bV b)
theorem eqCut2 (v : Val) (b : Bool) : (eqD tab 9 28 (.agg (.es (List.take 4 (List.drop 0 (eVal v))))) (.agg (.es (eVal (bV b))))).2 = decide (v = bV b) := by
  have h := eqV2 v (bV b)
  refine (show (eqD tab 9 28 (.agg (.es (List.take 4 (List.drop 0 (eVal v))))) (.agg (.es (eVal (bV b))))).2 = _ from h).trans ?_
  refine decide_eq_decide.2 ⟨fun ⟨h1, h2, h3, h4⟩ => Val.ext' h1 h2 (BitVec.eq_of_toNat_eq h3) h4, fun e => by subst e; exact ⟨rfl, rfl, rfl, rfl⟩⟩
set_option maxRecDepth 10000 in
set_option maxHeartbeats 2000000 in
theorem twn_of (op : Int) (row : List Val) (ty f : Nat) (vs : List Value) (ty2 f2 : Nat) (us : List Value) (x y : Val × Int) (ho : op2 op) (hm : methB Tryz.prog ty "chirograph/eval.of" f = true) (hv : vs.all (·.oneCell') = true) (hfn : FnG Tryz.prog f gK [.agg (.es (vs.map .v)), .one (.e (eRow row))] (rVE x)) (hx : x.2 = 0 → good x.1) (hm2 : methB Tryz.prog ty2 "chirograph/eval.of" f2 = true) (hv2 : us.all (·.oneCell') = true) (hfn2 : FnG Tryz.prog f2 gK [.agg (.es (us.map .v)), .one (.e (eRow row))] (rVE y)) (hy : y.2 = 0 → good y.1) : FnG Tryz.prog 324 gK [.agg (.es [eI op, .v (.iface ty (.agg vs.toArray)), .v (.iface ty2 (.agg us.toArray))]), .one (.e (eRow row))] (rVE (twnF op x y)) := by
  refine fn_introG (T := tab) tOk Tryz.func324 rfl (by kernel_rfl) (by simp [Tryz.ntmps324]) ?_
  intro X hX
  have hnt : X.nt = 66 := hX
  clear hX
  have hF : twnF op x y = twnF op x y := rfl
  conv at hF => rhs; unfold twnF
  generalize twnF op x y = Z at *
  obtain ⟨v, e⟩ := x
  obtain ⟨w, g⟩ := y
  dsimp only at hF hx hy
  repeat' first | refine zzs ?_ | refine zzb ?_ | refine zzk ?_
  first | refine zzr hnt rfl ?_ ?_ | refine zzd hnt rfl ?_ ?_
  · exact zzt
  repeat' first | refine zzs ?_ | refine zzb ?_ | refine zzk ?_
  refine tr_region (zzx hnt rfl ?_ (callI rfl rfl rfl rfl rfl rfl rfl hnt rfl hm hv hfn (zzx hnt rfl ?_ (Lex.nil _)))) ?_
  · exact zzt
  · exact zzt
  repeat' first | refine zzs ?_ | refine zzr hnt rfl ?_ ?_ | refine zzd hnt rfl ?_ ?_ | refine zzb ?_ | refine zzk ?_
  · exact zzt
  repeat' first | refine zzs ?_ | refine zzb ?_ | refine zzk ?_
  refine tr_cond rfl (fun hc => ?_) (fun hc => ?_)
  · simp only [zz1, zz2, zz3, zz4, zz5, zz6, zz7, zz8] at hc
    have hc : e ≠ 0 := hc
    rw [if_pos hc] at hF
    subst hF
    repeat' first | refine zzs ?_ | refine zzr hnt rfl ?_ ?_ | refine zzd hnt rfl ?_ ?_ | refine zzb ?_ | refine zzk ?_
    · exact zzt
    exact tr_ret ⟨.inr rfl, _, _, rfl, zzp, rfl⟩
  simp only [zz1, zz2, zz3, zz4, zz5, zz6, zz7, zz8] at hc
  have hc : e = 0 := hc
  rw [if_neg (not_not_intro hc)] at hF
  have gv := hx hc
  have hcb : cutB op v ↔ (op = 20 ∧ v.k ≠ 0) ∨ (op = 15 ∧ v = bV false) ∨ (op = 16 ∧ v = bV true) := Iff.rfl
  refine tr_le (s' := St.of [(1, .one (.e (eRow row))), (2, .one (.ptr 2 0 0)), (4, .one (.ptr 4 0 0)), (6, .one (.ptr 6 0 0)), ((1000000 + 5), .one (.eptr fsE)), ((1000000 + 6), .one (.eptr acE))] [(2, ⟨0, .box (.es [eI op, .v (.iface ty (.agg vs.toArray)), .v (.iface ty2 (.agg us.toArray))]), 0⟩), (4, ⟨0, .box (.es (eVal val0)), 0⟩), (6, ⟨0, .box (.es (eVal v)), 0⟩)]) (le_of (ad := []) ⟨zzl, zzl, zzl, zzl, zzl, zzl, trivial⟩ (memOk_box rfl rfl rfl (memOk_box rfl rfl rfl (memOk_box rfl rfl rfl trivial)))) ?_
  repeat' first | refine zzs ?_ | refine zzb ?_ | refine zzk ?_
  first | refine zzr hnt rfl ?_ ?_ | refine zzd hnt rfl ?_ ?_
  · exact zza
  rw [show ([eI op, E.v (Value.iface ty (.agg vs.toArray)), E.v (Value.iface ty2 (.agg us.toArray))].getD (0 + 0) E.dflt).int = op from rfl, eVal0]
  have hB : (bif decide (op = 20) then !decide (v.k = 0) else false) = decide (op = 20 ∧ v.k ≠ 0) := by
    by_cases h1 : op = 20 <;> by_cases h2 : v.k = 0 <;> simp [h1, h2]
  rw [hB]
  repeat' first | refine zzs ?_ | refine zzb ?_ | refine zzk ?_
  refine tr_cond rfl (fun hc => ?_) (fun hc => ?_)
  · have hc := of_decide_eq_true hc
    rw [if_pos (hcb.2 (.inl hc))] at hF
    subst hF
    repeat' first | refine zzs ?_ | refine zzr hnt rfl ?_ ?_ | refine zzd hnt rfl ?_ ?_ | refine zzb ?_ | refine zzk ?_
    · exact zzt
    exact tr_ret ⟨.inr rfl, _, _, rfl, zzp, rfl⟩
  have h20 := of_decide_eq_false hc
  have ht0 : FnD Tryz.prog 322 [.one (.e (eI 0))] (.agg (.es (eVal (bV false)))) := truth_fn 0
  have ht2 : FnD Tryz.prog 322 [.one (.e (eI 2))] (.agg (.es (eVal (bV true)))) := truth_fn 2
  repeat' first | refine zzs ?_ | refine zzb ?_ | refine zzk ?_
  refine tr_draw (T := tab) tOk hnt mixedR (lexD (T := tab) rfl ?_ (callGD rfl rfl rfl rfl rfl rfl rfl rfl (fun hq => ?_) (fun hq => ht0) (lexD (T := tab) rfl ?_ (.nil _)))) (by first | decide +kernel | kernel_rfl) ?_
  · exact zza
  · exact zza
  · exact zza
  have hB2 : (bif decide (op = 15) then (eqD tab 9 28 (.agg (.es (List.take 4 (List.drop 0 (eVal v))))) (.agg (.es (eVal (bV false))))).2 else false) = decide (op = 15 ∧ v = bV false) := by
    rw [eqCut2]
    by_cases h1 : op = 15 <;> by_cases h2 : v = bV false <;> simp [h1, h2]
  have hB3 : (bif decide (op = 16) then (eqD tab 9 28 (.agg (.es (List.take 4 (List.drop 0 (eVal v))))) (.agg (.es (eVal (bV true))))).2 else false) = decide (op = 16 ∧ v = bV true) := by
    rw [eqCut2]
    by_cases h1 : op = 16 <;> by_cases h2 : v = bV true <;> simp [h1, h2]
  repeat' first | refine zzs ?_ | refine zzb ?_ | refine zzk ?_
  refine tr_cond rfl (fun hc => ?_) (fun hc => ?_)
  · have hc2 := of_decide_eq_true (hB2.symm.trans hc)
    rw [if_pos (hcb.2 (.inr (.inl hc2)))] at hF
    subst hF
    repeat' first | refine zzs ?_ | refine zzb ?_ | refine zzk ?_
    refine tr_cond rfl (fun _ => ?_) (fun h => absurd (hc.symm.trans h) Bool.noConfusion)
    repeat' first | refine zzs ?_ | refine zzr hnt rfl ?_ ?_ | refine zzd hnt rfl ?_ ?_ | refine zzb ?_ | refine zzk ?_
    · exact zzt
    exact tr_ret ⟨.inr rfl, _, _, rfl, zzp, rfl⟩
  have h15 := of_decide_eq_false (hB2.symm.trans hc)
  repeat' first | refine zzs ?_ | refine zzb ?_ | refine zzk ?_
  refine tr_draw (T := tab) tOk hnt mixedR (lexD (T := tab) rfl ?_ (callGD rfl rfl rfl rfl rfl rfl rfl rfl (fun hq => ?_) (fun hq => ht2) (lexD (T := tab) rfl ?_ (.nil _)))) (by first | decide +kernel | kernel_rfl) ?_
  · exact zza
  · exact zza
  · exact zza
  repeat' first | refine zzs ?_ | refine zzb ?_ | refine zzk ?_
  refine tr_cond rfl (fun hc => ?_) (fun hc => ?_)
  · have hc2 := of_decide_eq_true (hB3.symm.trans hc)
    rw [if_pos (hcb.2 (.inr (.inr hc2)))] at hF
    subst hF
    repeat' first | refine zzs ?_ | refine zzr hnt rfl ?_ ?_ | refine zzd hnt rfl ?_ ?_ | refine zzb ?_ | refine zzk ?_
    · exact zzt
    exact tr_ret ⟨.inr rfl, _, _, rfl, zzp, rfl⟩
  have h16 := of_decide_eq_false (hB3.symm.trans hc)
  rw [if_neg (fun h => by rcases hcb.1 h with h | h | h; exact h20 h; exact h15 h; exact h16 h)] at hF
  repeat' first | refine zzs ?_ | refine zzb ?_ | refine zzk ?_
  refine tr_region (zzx hnt rfl ?_ (callI rfl rfl rfl rfl rfl rfl rfl hnt rfl hm2 hv2 hfn2 (zzx hnt rfl ?_ (Lex.nil _)))) ?_
  · exact zzt
  · exact zzt
  repeat' first | refine zzs ?_ | refine zzr hnt rfl ?_ ?_ | refine zzd hnt rfl ?_ ?_ | refine zzb ?_ | refine zzk ?_
  · exact zzt
  repeat' first | refine zzs ?_ | refine zzb ?_ | refine zzk ?_
  refine tr_cond rfl (fun hc => ?_) (fun hc => ?_)
  · simp only [zz1, zz2, zz3, zz4, zz5, zz6, zz7, zz8] at hc
    have hc : g ≠ 0 := hc
    rw [if_pos hc] at hF
    subst hF
    repeat' first | refine zzs ?_ | refine zzr hnt rfl ?_ ?_ | refine zzd hnt rfl ?_ ?_ | refine zzb ?_ | refine zzk ?_
    · exact zzt
    exact tr_ret ⟨.inr rfl, _, _, rfl, zzp, rfl⟩
  simp only [zz1, zz2, zz3, zz4, zz5, zz6, zz7, zz8] at hc
  have hc : g = 0 := hc
  rw [if_neg (not_not_intro hc)] at hF
  subst hF
  have h := two_fn op v w gv.1 (hy hc).1 gv.2 (hy hc).2 ho
  generalize tw2F op v w = A at *
  repeat' first | refine zzs ?_ | refine zzb ?_ | refine zzk ?_
  refine tr_region (zzx hnt rfl ?_ (callV rfl rfl rfl rfl rfl rfl rfl hnt rfl (h) (zzx hnt rfl ?_ (Lex.nil _)))) ?_
  · exact zzt
  · exact zzt
  exact tr_ret ⟨.inr rfl, _, _, rfl, zzp, rfl⟩
theorem th_of {row : List Val} : ∀ (x : Th), x.ok row → FnG Tryz.prog x.fn gK [.agg (.es (x.vs.map .v)), .one (.e (eRow row))] (rVE (x.ev row))
  | .fix v, _ => fix_of v row
  | .plc i, h => plc_of i row h.1 h.2.1
  | .mis, _ => mis_of row
  | .sol op a, h => by
    have h1 := sol_of op row a.ty a.fn a.vs (a.ev row) a.meth a.vs_one (th_of a h.2) (a.ev_good h.2)
    rw [← Th.val_eq] at h1
    exact h1
  | .twn op a b, h => by
    have h1 := twn_of op row a.ty a.fn a.vs b.ty b.fn b.vs (a.ev row) (b.ev row) h.1 a.meth a.vs_one (th_of a h.2.1) (a.ev_good h.2.1) b.meth b.vs_one (th_of b h.2.2) (b.ev_good h.2.2)
    rw [← Th.val_eq, ← Th.val_eq] at h1
    exact h1
def fsF : List Colm → Byt → Nat → Int
  | [], _, _ => -1
  | c :: r, s, i => if c.n = s then (i : Int) else fsF r s (i + 1)
def lfT (cols : List Colm) (x : Ex) : Th := if x.op = 1 then .fix x.v else if fsF cols x.n 0 < 0 then .mis else .plc (fsF cols x.n 0)
def mkT (cols : List Colm) (x : Ex) : List Th → Th
  | [a] => .sol x.op a
  | [a, b] => .twn x.op a b
  | _ => lfT cols x
mutual
def thO (cols : List Colm) : Ex → Th
  | .mk op v n ar => mkT cols (.mk op v n ar) (thL cols ar)
def thL (cols : List Colm) : List Ex → List Th
  | [] => []
  | a :: r => thO cols a :: thL cols r
end
theorem thO_eq (cols : List Colm) (x : Ex) : thO cols x = mkT cols x (thL cols x.ar) := by cases x; rw [thO]; rfl
theorem fsF_rng : ∀ (l : List Colm) (s : Byt) (i : Nat), fsF l s i = -1 ∨ ((i : Int) ≤ fsF l s i ∧ fsF l s i < (i + l.length : Nat))
  | [], _, _ => .inl rfl
  | c :: r, s, i => by
    rw [fsF]
    split
    · exact .inr ⟨Int.le_refl _, by rw [List.length_cons]; omega⟩
    · rcases fsF_rng r s (i + 1) with h | h
      · exact .inl h
      · exact .inr ⟨by omega, by rw [List.length_cons]; omega⟩
theorem eEx_one (op : Int) (v : Val) (n : Byt) (a : Ex) : eEx (.mk op v n [a]) = [eI op, eI v.k, eI v.i, eQ v.b, eT v.t, eT n, .sl [eEx a]] := by rw [eEx, eExs, eExs]
theorem eEx_two (op : Int) (v : Val) (n : Byt) (a b : Ex) : eEx (.mk op v n [a, b]) = [eI op, eI v.k, eI v.i, eQ v.b, eT v.t, eT n, .sl [eEx a, eEx b]] := by rw [eEx, eExs, eExs, eExs]
set_option maxRecDepth 10000 in
set_option maxHeartbeats 2000000 in
theorem thing_one (cols : List Colm) (op : Int) (v : Val) (n : Byt) (a : Ex) (ih : FnD Tryz.prog 179 [.agg (.es (eEx a)), .one (.e (eCols cols))] (.v (thO cols a).val)) : FnD Tryz.prog 179 [.agg (.es (eEx (.mk op v n [a]))), .one (.e (eCols cols))] (.v (Th.sol op (thO cols a)).val) := by
  refine fn_intro (T := tab) tOk Tryz.func179 rfl (by kernel_rfl) (by simp [Tryz.ntmps179]) ?_
  intro X hX
  have hnt : X.nt = 65 := hX
  clear hX
  have h7 : 0 + 7 ≤ (Cs.es (eEx a)).len := by have := ex7 a; show 0 + 7 ≤ (eEx a).length; omega
  have g1 : (0 : Int) < ((1 : Nat) : Int) := by decide
  have k7 := ex7 a
  rw [eEx_one]
  rw [← exAll a] at ih
  repeat' first | refine zzs ?_ | refine zzr hnt rfl ?_ ?_ | refine zzd hnt rfl ?_ ?_ | refine zzb ?_ | refine zzk ?_
  · exact zzt
  · exact zzt
  · exact zzt
  repeat' first | refine zzs ?_ | refine zzb ?_ | refine zzk ?_
  refine tr_cond rfl (fun hc => ?_) (fun hc => ?_)
  rotate_left
  · exact absurd (show true = false from hc) Bool.noConfusion
  repeat' first | refine zzs ?_ | refine zzb ?_ | refine zzk ?_
  refine tr_draw (T := tab) tOk hnt mixedR (lexD (T := tab) rfl ?_ (callD rfl rfl rfl rfl rfl rfl rfl rfl (ih) (lexD (T := tab) rfl ?_ (.nil _)))) (by first | decide +kernel | kernel_rfl) ?_
  · exact zza
  · exact zza
  exact tr_ret ⟨.inr rfl, _, _, rfl, zzp, rfl⟩
set_option maxRecDepth 10000 in
set_option maxHeartbeats 2000000 in
theorem thing_two (cols : List Colm) (op : Int) (v : Val) (n : Byt) (a b : Ex) (ih : FnD Tryz.prog 179 [.agg (.es (eEx a)), .one (.e (eCols cols))] (.v (thO cols a).val)) (ih2 : FnD Tryz.prog 179 [.agg (.es (eEx b)), .one (.e (eCols cols))] (.v (thO cols b).val)) : FnD Tryz.prog 179 [.agg (.es (eEx (.mk op v n [a, b]))), .one (.e (eCols cols))] (.v (Th.twn op (thO cols a) (thO cols b)).val) := by
  refine fn_intro (T := tab) tOk Tryz.func179 rfl (by kernel_rfl) (by simp [Tryz.ntmps179]) ?_
  intro X hX
  have hnt : X.nt = 65 := hX
  clear hX
  have h7 : 0 + 7 ≤ (Cs.es (eEx a)).len := by have := ex7 a; show 0 + 7 ≤ (eEx a).length; omega
  have h72 : 0 + 7 ≤ (Cs.es (eEx b)).len := by have := ex7 b; show 0 + 7 ≤ (eEx b).length; omega
  have g1 : (0 : Int) < ((2 : Nat) : Int) := by decide
  have k7 := ex7 a
  have k72 := ex7 b
  have g2 : (1 : Int) < ((2 : Nat) : Int) := by decide
  rw [eEx_two]
  rw [← exAll a] at ih
  rw [← exAll b] at ih2
  repeat' first | refine zzs ?_ | refine zzr hnt rfl ?_ ?_ | refine zzd hnt rfl ?_ ?_ | refine zzb ?_ | refine zzk ?_
  · exact zzt
  · exact zzt
  · exact zzt
  repeat' first | refine zzs ?_ | refine zzb ?_ | refine zzk ?_
  refine tr_cond rfl (fun hc => ?_) (fun hc => ?_)
  · exact absurd (show false = true from hc) Bool.noConfusion
  repeat' first | refine zzs ?_ | refine zzb ?_ | refine zzk ?_
  first | refine zzr hnt rfl ?_ ?_ | refine zzd hnt rfl ?_ ?_
  · exact zzt
  repeat' first | refine zzs ?_ | refine zzb ?_ | refine zzk ?_
  refine tr_cond rfl (fun hc => ?_) (fun hc => ?_)
  rotate_left
  · exact absurd (show true = false from hc) Bool.noConfusion
  repeat' first | refine zzs ?_ | refine zzb ?_ | refine zzk ?_
  refine tr_draw (T := tab) tOk hnt mixedR (lexD (T := tab) rfl ?_ (callD rfl rfl rfl rfl rfl rfl rfl rfl (ih) (lexD (T := tab) rfl ?_ (callD rfl rfl rfl rfl rfl rfl rfl rfl (ih2) (lexD (T := tab) rfl ?_ (.nil _)))))) (by first | decide +kernel | kernel_rfl) ?_
  · exact zza
  · exact zza
  · exact zza
  exact tr_ret ⟨.inr rfl, _, _, rfl, zzp, rfl⟩
set_option maxRecDepth 10000 in
set_option maxHeartbeats 2000000 in
theorem thing_leaf (cols : List Colm) (x : Ex) (hc : cols.length ≤ maxLen) (h1 : x.ar.length ≠ 1) (h2 : x.ar.length ≠ 2) : FnD Tryz.prog 179 [.agg (.es (eEx x)), .one (.e (eCols cols))] (.v (lfT cols x).val) := by
  refine fn_intro (T := tab) tOk Tryz.func179 rfl (by kernel_rfl) (by simp [Tryz.ntmps179]) ?_
  intro X hX
  have hnt : X.nt = 65 := hX
  clear hX
  have hml := colsLen cols
  have hxl := exsLen x.ar
  have hcm := hc
  unfold maxLen at hcm
  have hF : lfT cols x = lfT cols x := rfl
  conv at hF => rhs; unfold lfT
  generalize lfT cols x = Z at *
  rw [eEx_eq]
  repeat' first | refine zzs ?_ | refine zzr hnt rfl ?_ ?_ | refine zzd hnt rfl ?_ ?_ | refine zzb ?_ | refine zzk ?_
  · exact zzt
  · exact zzt
  · exact zzt
  repeat' first | refine zzs ?_ | refine zzb ?_ | refine zzk ?_
  refine tr_cond rfl (fun hc => ?_) (fun hc => ?_)
  · simp only [zz1, zz2, zz3, zz4, zz5, zz6, zz7, zz8] at hc
    have hc : (((eExs x.ar).length : Nat) : Int) = 1 := hc
    omega
  repeat' first | refine zzs ?_ | refine zzb ?_ | refine zzk ?_
  first | refine zzr hnt rfl ?_ ?_ | refine zzd hnt rfl ?_ ?_
  · exact zzt
  repeat' first | refine zzs ?_ | refine zzb ?_ | refine zzk ?_
  refine tr_cond rfl (fun hc => ?_) (fun hc => ?_)
  · simp only [zz1, zz2, zz3, zz4, zz5, zz6, zz7, zz8] at hc
    have hc : (((eExs x.ar).length : Nat) : Int) = 2 := hc
    omega
  repeat' first | refine zzs ?_ | refine zzr hnt rfl ?_ ?_ | refine zzd hnt rfl ?_ ?_ | refine zzb ?_ | refine zzk ?_
  · exact zzt
  repeat' first | refine zzs ?_ | refine zzb ?_ | refine zzk ?_
  refine tr_cond rfl (fun hc => ?_) (fun hc => ?_)
  · simp only [zz1, zz2, zz3, zz4, zz5, zz6, zz7, zz8] at hc
    have hc : x.op = 1 := hc
    rw [if_pos hc] at hF
    subst hF
    repeat' first | refine zzs ?_ | refine zzr hnt rfl ?_ ?_ | refine zzd hnt rfl ?_ ?_ | refine zzb ?_ | refine zzk ?_
    · exact zzt
    exact tr_ret ⟨.inr rfl, _, _, rfl, zzp, rfl⟩
  simp only [zz1, zz2, zz3, zz4, zz5, zz6, zz7, zz8] at hc
  have hc : ¬ x.op = 1 := hc
  rw [if_neg hc] at hF
  repeat' first | refine zzs ?_ | refine zzb ?_ | refine zzk ?_
  first | refine zzr hnt rfl ?_ ?_ | refine zzd hnt rfl ?_ ?_
  · exact zzt
  repeat' first | refine zzs ?_ | refine zzb ?_ | refine zzk ?_
  refine tr_loop (σ := Nat) (fun i => St.of [(2, .one (.ptr 2 0 0)), (47, .one (.e (eCols cols))), (48, .one (.e (eI ((cols.map eCol).length : Int)))), (49, .one (.e (eI (i : Int))))] [(2, ⟨0, .box (.es [eI x.op, eI x.v.k, eI x.v.i, eQ x.v.b, eT x.v.t, eT x.n, .sl (eExs x.ar)]), 0⟩)]) (fun i => i ≤ cols.length ∧ fsF (cols.drop i) x.n i = fsF cols x.n 0) (fun i => cols.length - i) (0) (le_of (ad := []) ⟨zzl, zzl, zzl, zzl, trivial⟩ (memOk_box rfl rfl rfl trivial)) ⟨Nat.zero_le _, rfl⟩ ?_
  rintro i ⟨il, hJ⟩
  repeat' first | refine zzs ?_ | refine zzr hnt rfl ?_ ?_ | refine zzd hnt rfl ?_ ?_ | refine zzb ?_ | refine zzk ?_
  · exact zzt
  repeat' first | refine zzs ?_ | refine zzb ?_ | refine zzk ?_
  refine tr_cond rfl (fun hc => ?_) (fun hc => ?_)
  · simp only [zz1, zz2, zz3, zz4, zz5, zz6, zz7, zz8] at hc
    (try simp only [hml] at hc)
    (try simp only [zz1, zz2, zz3, zz4, zz5, zz6, zz7, zz8] at hc)
    have hlt : i < cols.length := by omega
    have hg := colsGet cols i hlt
    rw [drop_getD (d := col0) hlt, fsF] at hJ
    repeat' first | refine zzs ?_ | refine zzb ?_ | refine zzk ?_
    first | refine zzr hnt rfl ?_ ?_ | refine zzd hnt rfl ?_ ?_
    · rw [Int.toNat_natCast, hg, hml]
      exact zza
    rw [Int.toNat_natCast, hg]
    generalize cols.getD i col0 = c at *
    refine tr_le (s' := St.of [(2, .one (.ptr 2 0 0)), (5, .one (.e (eI (i : Int)))), (6, .one (.ptr 6 0 0)), (47, .one (.e (eCols cols))), (48, .one (.e (eI ((cols.map eCol).length : Int)))), (49, .one (.e (eI (i : Int))))] [(2, ⟨0, .box (.es [eI x.op, eI x.v.k, eI x.v.i, eQ x.v.b, eT x.v.t, eT x.n, .sl (eExs x.ar)]), 0⟩), (6, ⟨0, .box (.es (eCol c)), 0⟩)]) (le_of (ad := []) ⟨zzl, zzl, zzl, zzl, zzl, zzl, trivial⟩ (memOk_box rfl rfl rfl (memOk_box rfl rfl rfl trivial))) ?_
    repeat' first | refine zzs ?_ | refine zzb ?_ | refine zzk ?_
    first | refine zzr hnt rfl ?_ ?_ | refine zzd hnt rfl ?_ ?_
    · exact zza
    have hs : strEq ((eCol c).getD (0 + 0) E.dflt).str (([eI x.op, eI x.v.k, eI x.v.i, eQ x.v.b, eT x.v.t, eT x.n, E.sl (eExs x.ar)] : List E).getD (0 + 5) E.dflt).str = decide (c.n = x.n) := by
      rw [eCol0]
      exact strEq_B c.n x.n
    repeat' first | refine zzs ?_ | refine zzb ?_ | refine zzk ?_
    refine tr_cond rfl (fun hc => ?_) (fun hc => ?_)
    · have hc : c.n = x.n := of_decide_eq_true (hs.symm.trans hc)
      rw [if_pos hc] at hJ
      rw [if_neg (by omega), ← hJ] at hF
      subst hF
      repeat' first | refine zzs ?_ | refine zzr hnt rfl ?_ ?_ | refine zzd hnt rfl ?_ ?_ | refine zzb ?_ | refine zzk ?_
      · exact zzt
      exact tr_ret ⟨.inr rfl, _, _, rfl, zzp, rfl⟩
    have hc : ¬ c.n = x.n := of_decide_eq_false (hs.symm.trans hc)
    rw [if_neg hc] at hJ
    repeat' first | refine zzs ?_ | refine zzr hnt rfl ?_ ?_ | refine zzd hnt rfl ?_ ?_ | refine zzb ?_ | refine zzk ?_
    · exact zzt
    refine ⟨i + 1, ⟨hlt, hJ⟩, by omega, le_of (ad := []) ⟨zzl, zzl, zzl, zzl, trivial⟩ (memOk_box rfl rfl rfl trivial)⟩
  simp only [zz1, zz2, zz3, zz4, zz5, zz6, zz7, zz8] at hc
  (try simp only [hml] at hc)
  (try simp only [zz1, zz2, zz3, zz4, zz5, zz6, zz7, zz8] at hc)
  refine tr_exit ?_
  rw [List.drop_eq_nil_of_le (by omega), fsF] at hJ
  rw [if_pos (by omega)] at hF
  subst hF
  repeat' first | refine zzs ?_ | refine zzr hnt rfl ?_ ?_ | refine zzd hnt rfl ?_ ?_ | refine zzb ?_ | refine zzk ?_
  · exact zzt
  exact tr_ret ⟨.inr rfl, _, _, rfl, zzp, rfl⟩
theorem thing_all (cols : List Colm) (hc : cols.length ≤ maxLen) : ∀ (m : Nat) (x : Ex), nodes x ≤ m → FnD Tryz.prog 179 [.agg (.es (eEx x)), .one (.e (eCols cols))] (.v (thO cols x).val)
  | 0, x, h => absurd h (by have := nodes_pos x; omega)
  | m + 1, .mk op v n [], h => by
    rw [thO_eq]
    exact thing_leaf cols _ hc (by show (0 : Nat) ≠ 1; decide) (by show (0 : Nat) ≠ 2; decide)
  | m + 1, .mk op v n [a], h => by
    rw [thO_eq]
    exact thing_one cols op v n a (thing_all cols hc m a (kid_nodes h (by show a ∈ [a]; simp)))
  | m + 1, .mk op v n [a, b], h => by
    rw [thO_eq]
    exact thing_two cols op v n a b (thing_all cols hc m a (kid_nodes h (by show a ∈ [a, b]; simp))) (thing_all cols hc m b (kid_nodes h (by show b ∈ [a, b]; simp)))
  | m + 1, .mk op v n (a :: b :: c :: r), h => by
    rw [thO_eq]
    exact thing_leaf cols _ hc (by show r.length + 1 + 1 + 1 ≠ 1; omega) (by show r.length + 1 + 1 + 1 ≠ 2; omega)
theorem thing_fn (cols : List Colm) (hc : cols.length ≤ maxLen) (x : Ex) : FnD Tryz.prog 179 [.agg (.es (eEx x)), .one (.e (eCols cols))] (.v (thO cols x).val) := thing_all cols hc (nodes x) x (Nat.le_refl _)
/-! ### a right expression's thing, in a row that fits -/
theorem nd_zero {x : Ex} (h : ndF x = 0) : nodeF x = 0 ∧ ∀ a ∈ x.ar, ndF a = 0 := by
  rw [ndF_eq] at h
  split at h
  · contradiction
  · rename_i hn
    have hn := Classical.not_not.1 hn
    refine ⟨hn, ?_⟩
    have key : ∀ l : List Ex, ndL l = 0 → ∀ a ∈ l, ndF a = 0 := by
      intro l
      induction l with
      | nil => intro _ a ha; cases ha
      | cons b r ih =>
        intro hl a ha
        rw [ndL] at hl
        split at hl
        · contradiction
        · rename_i hb
          rcases List.mem_cons.1 ha with rfl | ha
          · exact Classical.not_not.1 hb
          · exact ih hl a ha
    exact key x.ar h
theorem node_ok {x : Ex} (h : nodeF x = 0) : 1 ≤ x.op ∧ x.op ≤ 20 ∧ (x.ar.length : Int) = wantF x.op ∧ (x.op = 2 ↔ x.n.length ≠ 0) ∧ (x.op = 1 ∨ zv x.v) ∧ (x.op = 2 → nmOk x.n) ∧ (x.op = 1 → chk x.v = 0 ∧ 0 ≤ x.v.i) := by
  have hr : ¬ (x.op < 1 ∨ 20 < x.op) := fun e => by
    unfold nodeF at h
    rw [if_pos e] at h
    cases h
  exact ⟨by omega, by omega, (nodeF_zero (by omega) (by omega)).2.1 h⟩
theorem want_cases {op : Int} (h1 : 1 ≤ op) (h2 : op ≤ 20) : (wantF op = 0 ↔ op = 1 ∨ op = 2) ∧ (wantF op = 1 ↔ op1 op) ∧ (wantF op = 2 ↔ op2 op) := by
  unfold wantF op1 op2
  split
  · omega
  · split <;> omega
theorem fsF_rng0 {cols : List Colm} {s : Byt} (h : ¬ fsF cols s 0 < 0) : 0 ≤ fsF cols s 0 ∧ fsF cols s 0 < cols.length := by
  rcases fsF_rng cols s 0 with h1 | h1
  · omega
  · rw [Nat.zero_add] at h1; exact ⟨by omega, h1.2⟩
theorem th_ok (cols : List Colm) (row : List Val) (hl : row.length = cols.length) (hg : ∀ v ∈ row, good v) : ∀ (m : Nat) (x : Ex), nodes x ≤ m → exOk x → ndF x = 0 → (thO cols x).ok row
  | 0, x, h, _, _ => absurd h (by have := nodes_pos x; omega)
  | m + 1, .mk op v n ar, h, ho, hn => by
    obtain ⟨n1, n2⟩ := nd_zero hn
    obtain ⟨k1, k2, k3, k4, k5, k6, k7⟩ := node_ok n1
    obtain ⟨w1, w2, w3⟩ := want_cases k1 k2
    have hL := exOk_kids ho
    have hp := (exOk_parts ho).1
    change 1 ≤ op at k1
    change op ≤ 20 at k2
    change (ar.length : Int) = wantF op at k3
    change wantF op = 1 ↔ op1 op at w2
    change wantF op = 2 ↔ op2 op at w3
    rw [thO_eq]
    match ar, h, n2, k3, hL with
    | [], h, n2, k3, hL =>
      show (lfT cols (.mk op v n [])).ok row
      unfold lfT
      split
      · rename_i e
        exact ⟨(k7 e).1, hp.1.2⟩
      · split
        · trivial
        · rename_i e2
          obtain ⟨f1, f2⟩ := fsF_rng0 e2
          exact ⟨f1, by omega, hg⟩
    | [a], h, n2, k3, hL => exact ⟨w2.1 k3.symm, th_ok cols row hl hg m a (kid_nodes h (by show a ∈ [a]; simp)) (hL.2 a (by show a ∈ [a]; simp)) (n2 a (by show a ∈ [a]; simp))⟩
    | [a, b], h, n2, k3, hL => exact ⟨w3.1 k3.symm, th_ok cols row hl hg m a (kid_nodes h (by show a ∈ [a, b]; simp)) (hL.2 a (by show a ∈ [a, b]; simp)) (n2 a (by show a ∈ [a, b]; simp)), th_ok cols row hl hg m b (kid_nodes h (by show b ∈ [a, b]; simp)) (hL.2 b (by show b ∈ [a, b]; simp)) (n2 b (by show b ∈ [a, b]; simp))⟩
    | a :: b :: c :: r, h, n2, k3, hL =>
      have : wantF op ≤ 2 := by unfold wantF; split; decide; split <;> decide
      simp only [List.length_cons] at k3
      omega
theorem rwF_all : ∀ (r : List Val) (l : List Colm), r.length = l.length → rwF r l = 0 → ∀ v ∈ r, chk v = 0
  | [], _, _, _, v, h => by cases h
  | a :: r, [], hl, _, _, _ => by cases hl
  | a :: r, c :: l, hl, h, v, hv => by
    rw [rwF] at h
    by_cases ha : chk a ≠ 0
    · rw [if_pos ha] at h; exact absurd h ha
    rw [if_neg ha] at h
    have hr : rwF r l = 0 := by
      split at h
      · split at h
        · cases h
        · exact h
      · split at h
        · cases h
        · exact h
    rcases List.mem_cons.1 hv with rfl | hv
    · exact Classical.not_not.1 ha
    · exact rwF_all r l (by simpa using hl) hr v hv
theorem row_ok {r : List Val} {l : List Colm} (hv : ∀ v ∈ r, v.ok) (h : rowF r l = 0) : colsF l = 0 ∧ r.length = l.length ∧ ∀ v ∈ r, good v := by
  unfold rowF at h
  split at h
  · contradiction
  · rename_i h1
    split at h
    · cases h
    · rename_i h2
      exact ⟨Classical.not_not.1 h1, Classical.not_not.1 h2, fun v hm => ⟨rwF_all r l (Classical.not_not.1 h2) h v hm, (hv v hm).2⟩⟩
theorem exF_ok {x : Ex} (h : exF x = 0) : ndF x = 0 := by
  unfold exF at h
  split at h
  · exact h
  · cases h
def evF (x : Ex) (cols : List Colm) (row : List Val) : Val × Int :=
  if exF x ≠ 0 then (val0, exF x) else if rowF row cols ≠ 0 then (val0, rowF row cols) else if ((thO cols x).ev row).2 ≠ 0 then (val0, ((thO cols x).ev row).2) else (((thO cols x).ev row).1, 0)
set_option maxRecDepth 10000 in
set_option maxHeartbeats 2000000 in
theorem Eval_fn (x : Ex) (cols : List Colm) (row : List Val) (hx : exOk x) (hn : ∀ c ∈ cols, c.n.length ≤ maxLen) (hv : ∀ v ∈ row, v.ok) : FnG Tryz.prog 104 gK [.agg (.es (eEx x)), .one (.e (eCols cols)), .one (.e (eRow row))] (rVE (evF x cols row)) := by
  refine fn_introG (T := tab) tOk Tryz.func104 rfl (by kernel_rfl) (by simp [Tryz.ntmps104]) ?_
  intro X hX
  have hnt : X.nt = 38 := hX
  clear hX
  have h7 : 0 + 7 ≤ (Cs.es (eEx x)).len := by have := ex7 x; show 0 + 7 ≤ (eEx x).length; omega
  have e7 : (Cs.es (eEx x)).len = 7 := ex7 x
  have h1 := exprCheck_fn x hx
  have h2 := Row_fn row cols hn hv
  rw [← exAll x] at h1
  have hF : evF x cols row = evF x cols row := rfl
  conv at hF => rhs; unfold evF
  generalize evF x cols row = Z at *
  repeat' first | refine zzs ?_ | refine zzb ?_ | refine zzk ?_
  first | refine zzr hnt rfl ?_ ?_ | refine zzd hnt rfl ?_ ?_
  · exact zza
  repeat' first | refine zzs ?_ | refine zzb ?_ | refine zzk ?_
  refine tr_region (zzx hnt rfl ?_ (callV rfl rfl rfl rfl rfl rfl rfl hnt rfl (h1) (zzx hnt rfl ?_ (Lex.nil _)))) ?_
  · exact zza
  · exact zza
  repeat' first | refine zzs ?_ | refine zzr hnt rfl ?_ ?_ | refine zzd hnt rfl ?_ ?_ | refine zzb ?_ | refine zzk ?_
  · exact zzt
  repeat' first | refine zzs ?_ | refine zzb ?_ | refine zzk ?_
  refine tr_cond rfl (fun hc => ?_) (fun hc => ?_)
  · simp only [zz1, zz2, zz3, zz4, zz5, zz6, zz7, zz8] at hc
    rw [if_pos hc] at hF
    subst hF
    repeat' first | refine zzs ?_ | refine zzr hnt rfl ?_ ?_ | refine zzd hnt rfl ?_ ?_ | refine zzb ?_ | refine zzk ?_
    · exact zzt
    exact tr_ret ⟨.inr rfl, _, _, rfl, zzp, rfl⟩
  simp only [zz1, zz2, zz3, zz4, zz5, zz6, zz7, zz8] at hc
  rw [if_neg (not_not_intro hc)] at hF
  have hx0 := exF_ok hc
  repeat' first | refine zzs ?_ | refine zzb ?_ | refine zzk ?_
  refine tr_region (zzx hnt rfl ?_ (callV rfl rfl rfl rfl rfl rfl rfl hnt rfl (h2) (zzx hnt rfl ?_ (Lex.nil _)))) ?_
  · exact zzt
  · exact zzt
  repeat' first | refine zzs ?_ | refine zzr hnt rfl ?_ ?_ | refine zzd hnt rfl ?_ ?_ | refine zzb ?_ | refine zzk ?_
  · exact zzt
  repeat' first | refine zzs ?_ | refine zzb ?_ | refine zzk ?_
  refine tr_cond rfl (fun hc => ?_) (fun hc => ?_)
  · simp only [zz1, zz2, zz3, zz4, zz5, zz6, zz7, zz8] at hc
    rw [if_pos hc] at hF
    subst hF
    repeat' first | refine zzs ?_ | refine zzr hnt rfl ?_ ?_ | refine zzd hnt rfl ?_ ?_ | refine zzb ?_ | refine zzk ?_
    · exact zzt
    exact tr_ret ⟨.inr rfl, _, _, rfl, zzp, rfl⟩
  simp only [zz1, zz2, zz3, zz4, zz5, zz6, zz7, zz8] at hc
  rw [if_neg (not_not_intro hc)] at hF
  obtain ⟨r1, r2, r3⟩ := row_ok hv hc
  have hok := th_ok cols row r2 r3 (nodes x) x (Nat.le_refl _) hx hx0
  have h3 := thing_fn cols (by have : colsF cols = 0 := r1; unfold colsF at this; split at this; cases this; simp only [maxLen]; omega) x
  rw [← exAll x, Th.val_eq] at h3
  have h4 := th_of (thO cols x) hok
  have m1 := (thO cols x).meth
  have m2 := (thO cols x).vs_one
  generalize (thO cols x).ev row = A at *
  obtain ⟨v, e⟩ := A
  dsimp only at hF
  repeat' first | refine zzs ?_ | refine zzb ?_ | refine zzk ?_
  refine tr_region (zzx hnt rfl ?_ (call rfl rfl rfl rfl rfl rfl rfl hnt (h3) (zzx hnt rfl ?_ (callI rfl rfl rfl rfl rfl rfl rfl hnt rfl m1 m2 h4 (zzx hnt rfl ?_ (Lex.nil _)))))) ?_
  · exact zza
  · exact zza
  · exact zza
  repeat' first | refine zzs ?_ | refine zzr hnt rfl ?_ ?_ | refine zzd hnt rfl ?_ ?_ | refine zzb ?_ | refine zzk ?_
  · exact zzt
  repeat' first | refine zzs ?_ | refine zzb ?_ | refine zzk ?_
  refine tr_cond rfl (fun hc => ?_) (fun hc => ?_)
  · simp only [zz1, zz2, zz3, zz4, zz5, zz6, zz7, zz8] at hc
    have hc : e ≠ 0 := hc
    rw [if_pos hc] at hF
    subst hF
    repeat' first | refine zzs ?_ | refine zzr hnt rfl ?_ ?_ | refine zzd hnt rfl ?_ ?_ | refine zzb ?_ | refine zzk ?_
    · exact zzt
    exact tr_ret ⟨.inr rfl, _, _, rfl, zzp, rfl⟩
  simp only [zz1, zz2, zz3, zz4, zz5, zz6, zz7, zz8] at hc
  have hc : e = 0 := hc
  rw [if_neg (not_not_intro hc)] at hF
  subst hF
  repeat' first | refine zzs ?_ | refine zzr hnt rfl ?_ ?_ | refine zzd hnt rfl ?_ ?_ | refine zzb ?_ | refine zzk ?_
  · exact zzt
  exact tr_ret ⟨.inr rfl, _, _, rfl, zzp, rfl⟩
end Go.Proofs.YthnadkafegmacaaGreatDoor
