/- Words of constant texts: strings.Fields run at them. No condition. -/
import Derived.Test.YtcdifgacoleckaaDoorTXsC
namespace Go.Proofs.YtcdifgacoleckaaDoor
open Go Go.RowKit Go.Proofs.YtcdifgacoleckaaDoor.Ab
set_option linter.unusedSimpArgs false
set_option linter.unusedVariables false

section
variable {P : Program} {X : Ctx}
/-- a loop run round by round -/
def Rounds (P : Program) (X : Ctx) (c : Code) (Q : Exit → St → Prop) : Nat → St → Prop
  | 0, _ => False
  | n + 1, s => Tr P X c s (fun | .normal, s' => Rounds P X c Q n s' | e, s' => Q e s')
theorem rounds_go {c : Code} {Q : Exit → St → Prop} {n : Nat} {s : St} (h : Tr P X c s (fun | .normal, s' => Rounds P X c Q n s' | e, s' => Q e s')) : Rounds P X c Q (n + 1) s := h
theorem tr_unroll {c : Code} {Q : Exit → St → Prop} {s : St} (n : Nat) (h : Rounds P X c Q n s) : Tr P X (.loop c) s Q := by
  refine tr_loop (σ := Nat × St) (fun x => x.2) (fun x => Rounds P X c Q x.1 x.2) (fun x => x.1) (n, s) (fun _ _ h => h) h ?_
  rintro ⟨k, s⟩ hk
  cases k with
  | zero => exact hk.elim
  | succ k =>
    refine tr_mono hk fun e s' h => ?_
    cases e with
    | normal => exact ⟨(k, s'), h, Nat.lt_succ_self k, fun _ _ h => h⟩
    | _ => exact h
end
def spT : List Nat := (List.range 256).map fun i => if (9 ≤ i ∧ i ≤ 13) ∨ i = 32 then 1 else 0
def spE : List E := spT.map eU8
def mkE : List E := [[], [], [], [], [], [43], [45], [42], [47], [61], [60, 62], [60], [60, 61], [62], [62, 61], [65, 78, 68], [79, 82], [], [], [124, 124], []].map eT
def gX : List (Nat × List E) := [(3, fsE), (4, acE), (1, spE), (0, mkE)]
def Fld (s : Byt) (ws : List Byt) : Prop := FnG Tryd.prog 30 [(1, spE)] [.one (.e (eT s))] (.one (.e (.sl (ws.map fun t => [eT t]))))
def Tks (s : Byt) (ts : List Tok) : Prop := FnG Tryd.prog 29 [(1, spE)] [.one (.e (eT s))] (.one (.e (eTks ts)))
theorem zzF {s : Byt} {ws : List Byt} (h : ∀ X : Ctx, X.nt = 106 → Tr Tryd.prog X (Tryd.f30.body.getD .skip) (St.startG [(1, spE)] [.one (.e (eT s))]) (Ab.Ends tab Tryd.f30.results.toList (.one (.e (.sl (ws.map fun t => [eT t]))))) := by
  intro X hnt
  repeat' (first | refine tr_seq ?_ | refine tr_block ?_ | refine tr_skip ?_ | refine tr_unroll 30 ?_ | refine rounds_go ?_ | refine tr_exit ?_ | refine reg (T := tab) tOk hnt rfl (by exact zzt) ?_ | refine regD (T := tab) tOk mixedR hnt rfl (by first | decide +kernel | kernel_rfl) (by exact zzt) ?_ | refine tr_cond rfl (fun hc => ?_) (fun hc => absurd (show true = false from hc) Bool.noConfusion) | refine tr_cond rfl (fun hc => absurd (show false = true from hc) Bool.noConfusion) (fun hc => ?_))
  exact tr_ret ⟨.inr rfl, _, _, rfl, zzp, rfl⟩) : Fld s ws :=
  fn_introG (T := tab) tOk Tryd.func30 rfl (by kernel_rfl) (by simp [Tryd.ntmps30]) h


set_option maxRecDepth 10000
set_option maxHeartbeats 2000000
theorem fields_a : Fld [45] [[45]] := zzF


theorem fields_b : Fld [78, 79, 84] [[78, 79, 84]] := zzF


theorem fields_c : Fld [40] [[40]] := zzF


theorem fields_d : Fld [41] [[41]] := zzF


theorem fields_e : Fld [73, 83, 32, 78, 85, 76, 76] [[73, 83], [78, 85, 76, 76]] := zzF


theorem fields_f : Fld [76, 69, 78, 71, 84, 72, 32, 40] [[76, 69, 78, 71, 84, 72], [40]] := zzF


theorem fields_g : Fld [67, 79, 65, 76, 69, 83, 67, 69, 32, 40] [[67, 79, 65, 76, 69, 83, 67, 69], [40]] := zzF


theorem fields_h : Fld [44] [[44]] := zzF


theorem fields_i : Fld [78, 85, 76, 76] [[78, 85, 76, 76]] := zzF


theorem fields_j : Fld [70, 65, 76, 83, 69] [[70, 65, 76, 83, 69]] := zzF


theorem fields_k : Fld [84, 82, 85, 69] [[84, 82, 85, 69]] := zzF
def grT : Byt := [65, 66, 67, 68, 69, 70, 71, 72, 73, 74, 75, 76, 77, 78, 79, 80, 81, 82, 83, 84, 85, 86, 87, 88, 89, 90]
/-- a word or a sign -/
def wtk (w : Byt) : Tok := if amg grT (w.getD 0 0) = true then wdT w else sgT w
set_option maxRecDepth 10000 in
set_option maxHeartbeats 2000000 in
theorem tokens_gen (s : Byt) (ws : List Byt) (hF : Fld s ws) (hne : ∀ w ∈ ws, 0 < w.length) (hl : ws.length ≤ 1000) : FnG Tryd.prog 29 ([(1, spE)]) [.one (.e (eT s))] (.one (.e (eTks (ws.map wtk)))) := by
  refine fn_introG (T := tab) tOk Tryd.func29 rfl (by kernel_rfl) (by simp [Tryd.ntmps29]) ?_
  intro X hX
  have hnt : X.nt = 25 := hX
  clear hX
  have lw : (ws.map fun t => [eT t]).length = ws.length := List.length_map ..
  unfold Fld at hF
  repeat' first | refine zzs ?_ | refine zzr hnt rfl ?_ ?_ | refine zzd hnt rfl ?_ ?_ | refine zzb ?_ | refine zzk ?_
  · exact zzt
  · exact zzt
  repeat' first | refine zzs ?_ | refine zzb ?_ | refine zzk ?_
  refine tr_region (zzx hnt rfl ?_ (callV rfl rfl rfl rfl rfl rfl rfl hnt rfl (hF) (zzx hnt rfl ?_ (Lex.nil _)))) ?_
  · exact zza
  · exact zza
  repeat' first | refine zzs ?_ | refine zzb ?_ | refine zzk ?_
  refine tr_loop (σ := Nat) (fun i => St.of [(3, .one (.own 6000 0)), (8, .one (.e (.sl (ws.map fun t => [eT t])))), (9, .one (.e (eI ((ws.map fun t => [eT t]).length : Int)))), (10, .one (.e (eI (i : Int)))), ((1000000 + 1), .one (.eptr spE))] [(6000, ⟨0, .row 4 (((ws.take i).map wtk).map eTok), 0⟩)]) (fun i => i ≤ ws.length) (fun i => ws.length - i) (0) (le_of (ad := [6000]) ⟨zzl, zzl, zzl, zzl, zzl, trivial⟩ (memOk_new rfl (by decide) trivial)) (Nat.zero_le _) ?_
  rintro i il
  repeat' first | refine zzs ?_ | refine zzr hnt rfl ?_ ?_ | refine zzd hnt rfl ?_ ?_ | refine zzb ?_ | refine zzk ?_
  · exact zzt
  repeat' first | refine zzs ?_ | refine zzb ?_ | refine zzk ?_
  refine tr_cond rfl (fun hc => ?_) (fun hc => ?_)
  · simp only [zz1, zz2, zz3, zz4, zz5, zz6, zz7, zz8] at hc
    (try simp only [lw] at hc)
    (try simp only [zz1, zz2, zz3, zz4, zz5, zz6, zz7, zz8] at hc)
    have hlt : i < ws.length := by omega
    have hg : (ws.map fun t => [eT t]).getD i [] = [eT (ws.getD i [])] := by
      rw [List.getD_eq_getElem?_getD, List.getElem?_map, List.getElem?_eq_getElem hlt, List.getD_eq_getElem?_getD, List.getElem?_eq_getElem hlt]
      rfl
    have hw := hne (ws.getD i []) (by rw [List.getD_eq_getElem?_getD, List.getElem?_eq_getElem hlt]; exact List.getElem_mem hlt)
    have htk : (ws.take (i + 1)).map wtk = (ws.take i).map wtk ++ [wtk (ws.getD i [])] := by
      rw [List.take_add_one, List.getD_eq_getElem?_getD, List.getElem?_eq_getElem hlt, List.map_append]
      rfl
    have hpl : (((ws.take i).map wtk).map eTok).length = i := by
      rw [List.length_map, List.length_map, List.length_take]
      omega
    have hq1 : (((ws.take i).map wtk).map eTok).length + 1 ≤ maxLen := by rw [hpl]; simp only [maxLen]; omega
    have hq2 : ((((ws.take i).map wtk).map eTok).length + 1) * 40 ≤ 140737488355328 := by rw [hpl]; omega
    repeat' first | refine zzs ?_ | refine zzb ?_ | refine zzk ?_
    first | refine zzr hnt rfl ?_ ?_ | refine zzd hnt rfl ?_ ?_
    · rw [Int.toNat_natCast, hg, lw]
      exact zza
    rw [Int.toNat_natCast, hg]
    generalize ws.getD i [] = x at *
    have hxl : (strB x).size = x.length := List.size_toArray
    have hx0 : (0 : Int) < ((strB x).size : Int) := by omega
    repeat' first | refine zzs ?_ | refine zzb ?_ | refine zzk ?_
    first | refine zzr hnt rfl ?_ ?_ | refine zzd hnt rfl ?_ ?_
    · exact zzt
    have ha := among_fn ((strB x).data.toList.getD (Int.toNat 0) 0) grT (by decide)
    repeat' first | refine zzs ?_ | refine zzb ?_ | refine zzk ?_
    refine tr_region (zzx hnt rfl ?_ (call rfl rfl rfl rfl rfl rfl rfl hnt (ha) (zzx hnt rfl ?_ (Lex.nil _)))) ?_
    · exact zza
    · exact zza
    have he : ((ws.take i).map wtk).map eTok ++ [eTok (wtk x)] = ((ws.take (i + 1)).map wtk).map eTok := by
      rw [htk, List.map_append]
      rfl
    repeat' first | refine zzs ?_ | refine zzb ?_ | refine zzk ?_
    refine tr_cond rfl (fun hc => ?_) (fun hc => ?_)
    · have hc : amg grT (x.getD 0 0) = true := hc
      have hwx : wtk x = wdT x := by
        unfold wtk
        rw [if_pos hc]
      rw [hwx] at he
      repeat' first | refine zzs ?_ | refine zzb ?_ | refine zzk ?_
      first | refine zzr hnt rfl ?_ ?_ | refine zzd hnt rfl ?_ ?_
      · exact zzt
      repeat' first | refine zzs ?_ | refine zzb ?_ | refine zzk ?_
      first | refine zzr hnt rfl ?_ ?_ | refine zzd hnt rfl ?_ ?_
      · exact zza
      repeat' first | refine zzs ?_ | refine zzb ?_ | refine zzk ?_
      first | refine zzr hnt rfl ?_ ?_ | refine zzd hnt rfl ?_ ?_
      · exact zzt
      refine ⟨i + 1, hlt, by omega, le_of (ad := []) ⟨zzl, zzl, zzl, zzl, zzl, trivial⟩ (memOk_row rfl rfl he trivial)⟩
    have hc : ¬ amg grT (x.getD 0 0) = true := by
      have hc : amg grT (x.getD 0 0) = false := hc
      rw [hc]
      exact Bool.noConfusion
    have hwx : wtk x = sgT x := by
      unfold wtk
      rw [if_neg hc]
    rw [hwx] at he
    repeat' first | refine zzs ?_ | refine zzb ?_ | refine zzk ?_
    first | refine zzr hnt rfl ?_ ?_ | refine zzd hnt rfl ?_ ?_
    · exact zza
    repeat' first | refine zzs ?_ | refine zzb ?_ | refine zzk ?_
    first | refine zzr hnt rfl ?_ ?_ | refine zzd hnt rfl ?_ ?_
    · exact zzt
    refine ⟨i + 1, hlt, by omega, le_of (ad := []) ⟨zzl, zzl, zzl, zzl, zzl, trivial⟩ (memOk_row rfl rfl he trivial)⟩
  simp only [zz1, zz2, zz3, zz4, zz5, zz6, zz7, zz8] at hc
  (try simp only [lw] at hc)
  (try simp only [zz1, zz2, zz3, zz4, zz5, zz6, zz7, zz8] at hc)
  have hi : i = ws.length := by omega
  rw [hi, List.take_length]
  refine tr_exit ?_
  repeat' first | refine zzs ?_ | refine zzr hnt rfl ?_ ?_ | refine zzd hnt rfl ?_ ?_ | refine zzb ?_ | refine zzk ?_
  · exact zzt
  exact tr_ret ⟨.inr rfl, _, _, rfl, zzp, rfl⟩
theorem tokens_a : Tks [45] [sgT [45]] := tokens_gen _ _ fields_a (by decide) (by decide)
theorem tokens_b : Tks [78, 79, 84] [wdT [78, 79, 84]] := tokens_gen _ _ fields_b (by decide) (by decide)
theorem tokens_c : Tks [40] [sgT [40]] := tokens_gen _ _ fields_c (by decide) (by decide)
theorem tokens_d : Tks [41] [sgT [41]] := tokens_gen _ _ fields_d (by decide) (by decide)
theorem tokens_e : Tks [73, 83, 32, 78, 85, 76, 76] [wdT [73, 83], wdT [78, 85, 76, 76]] := tokens_gen _ _ fields_e (by decide) (by decide)
theorem tokens_f : Tks [76, 69, 78, 71, 84, 72, 32, 40] [wdT [76, 69, 78, 71, 84, 72], sgT [40]] := tokens_gen _ _ fields_f (by decide) (by decide)
theorem tokens_g : Tks [67, 79, 65, 76, 69, 83, 67, 69, 32, 40] [wdT [67, 79, 65, 76, 69, 83, 67, 69], sgT [40]] := tokens_gen _ _ fields_g (by decide) (by decide)
theorem tokens_h : Tks [44] [sgT [44]] := tokens_gen _ _ fields_h (by decide) (by decide)
theorem tokens_i : Tks [78, 85, 76, 76] [wdT [78, 85, 76, 76]] := tokens_gen _ _ fields_i (by decide) (by decide)
theorem tokens_j : Tks [70, 65, 76, 83, 69] [wdT [70, 65, 76, 83, 69]] := tokens_gen _ _ fields_j (by decide) (by decide)
theorem tokens_k : Tks [84, 82, 85, 69] [wdT [84, 82, 85, 69]] := tokens_gen _ _ fields_k (by decide) (by decide)
end Go.Proofs.YtcdifgacoleckaaDoor
