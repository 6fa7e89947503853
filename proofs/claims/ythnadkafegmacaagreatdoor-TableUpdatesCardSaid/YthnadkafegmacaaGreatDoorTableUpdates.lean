/- Rows.TableUpdatesSaid: for every input that can be read the law returns true (the frame round the walk). -/
import Derived.Test.YthnadkafegmacaaGreatDoorTableUpdatesWalk
import Derived.Test.YthnadkafegmacaaGreatDoorCards
import Derived.Test.YthnadkafegmacaaGreatDoorTie
import Derived.OpenShut
import Derived.Deep.DeepHandedRow
import Derived.Test.YthnadkafegmacaaGreatDoorGlob
namespace Go.Proofs.YthnadkafegmacaaGreatDoor.lawTableUpdates
open Go.ChangeShapes Go.WideShapes Go.ChangeAt Go.RowKit Go.Deep Go.Proofs.YthnadkafegmacaaGreatDoor.Ab

theorem steps {W : World} (h : laidMetH Tryz.prog Rows.tableUpdatesRow.laid W) : ∀ x ∈ gK, RepD p0 (CI W anyI) W (.one (.eptr x.2)) (.pointer (some ⟨x.1, 0, none⟩)) := by
  have h : laidMet Tryz.prog Rows.tableUpdatesRow.laid W := h
  intro x hx
  rcases List.mem_cons.1 hx with rfl | hx
  · exact glob_reads h (x := Rows.tableUpdatesRow.laid[1]) (List.getElem_mem _) (g := 5) (by kernel_rfl) (t := ((Tryz.prog.globals[5]?).map (·.type)).getD 0) (by kernel_rfl) (f := 1000) (es := fsE) (by kernel_rfl) (by kernel_rfl) (by kernel_rfl)
  rcases List.mem_cons.1 hx with rfl | hx
  · exact glob_reads h (x := Rows.tableUpdatesRow.laid[0]) (List.getElem_mem _) (g := 6) (by kernel_rfl) (t := ((Tryz.prog.globals[6]?).map (·.type)).getD 0) (by kernel_rfl) (f := 1000) (es := acE) (by kernel_rfl) (by kernel_rfl) (by kernel_rfl)
  cases hx

theorem own : ownKnob Tryz.prog.godebug = none := by kernel_rfl
theorem laidOut : laidOutB Tryz.prog = true := by kernel_rfl

set_option maxRecDepth 100000 in
theorem contract (H : Type) (enc : TypeId × Value → H) (W : World) (base : Nat) (args : Array Value) (ds gs : List (DataW H)) (before : List MemPlace)
    (hval : ∀ (j : Nat) t v, Tryz.f6.params[j]? = some t → args[j]? = some v → Value.okWide Tryz.prog W .any base t v)
    (hW : DataW.Whole enc Tryz.prog Tryz.f6.params.toList Rows.tableUpdatesSpec.vars false W args.toList ds gs before) (hL : laidMetH Tryz.prog Rows.tableUpdatesRow.laid W) :
    Calls Tryz.prog 6 args W fun e W' => ∃ v, e = .returned v ∧ Rows.tableUpdatesSpec.post enc Tryz.prog Tryz.f6 false true false false W args v W' := by
  have hW' := hW
  obtain ⟨p, q, hA0, hV, rfl, hfz, hnd⟩ := hW
  have hA : DataW.TrodAll enc Tryz.prog W 0 (fun _ => true) true Tryz.f6.params.toList args.toList ds p := hA0
  rw [Tryz.params6] at hA hval
  obtain ⟨v0, vs0, d0, ds0, p0, q0, hargs, rfl, rfl, h0, r0⟩ := trodAll_cons hA
  obtain ⟨v1, vs1, d1, ds1, p1, q1, rfl, rfl, rfl, h1, r1⟩ := trodAll_cons r0
  obtain ⟨v2, vs2, d2, ds2, p2, q2, rfl, rfl, rfl, h2, r2⟩ := trodAll_cons r1
  obtain ⟨v3, vs3, d3, ds3, p3, q3, rfl, rfl, rfl, h3, r3⟩ := trodAll_cons r2
  obtain ⟨rfl, rfl, rfl⟩ := trodAll_nil r3
  obtain rfl : args = #[v0, v1, v2, v3] := by cases args; simp_all
  obtain ⟨rfl, rfl⟩ := trodVars_none hV
  have k0 := h0
  have lt0 : ∀ x ∈ p0, x.block < W.heap.size := by obtain ⟨m, hm⟩ := k0; exact DataW.trod_lt m _ _ _ hm
  obtain ⟨a0, ha0, hb0⟩ : ∃ a, (cStruct (cCons cBool (cCons cStr (cCons (cSlice (cStruct (cCons cStr (cCons (cInt .i64) (cCons cBool cEnd))))) (cCons (cArr 2 (cArr 4 (cStruct (cCons cBool (cCons (cSlice (cStruct (cCons (cInt .i64) (cCons (cInt .i64) (cCons (cInt .u64) (cCons cStr cEnd)))))) cEnd))))) cEnd))))).rel W (lt W.heap.size) v0.cells.toList a ∧ (cStruct (cCons cBool (cCons cStr (cCons (cSlice (cStruct (cCons cStr (cCons (cInt .i64) (cCons cBool cEnd))))) (cCons (cArr 2 (cArr 4 (cStruct (cCons cBool (cCons (cSlice (cStruct (cCons (cInt .i64) (cCons (cInt .i64) (cCons (cInt .u64) (cCons cStr cEnd)))))) cEnd))))) cEnd))))).bulk a ≤ Rows.uptoBulk d0 := by
    obtain ⟨fuel, hf⟩ := h0
    exact (opens_struct Tryz.underlying49 (by kernel_rfl) (opensFs_cons rfl (opens_bool Tryz.underlying4 (by kernel_rfl)) (opensFs_cons rfl (opens_str Tryz.underlying9 (by kernel_rfl)) (opensFs_cons rfl (opens_slice Tryz.underlying23 (by kernel_rfl) (by decide) (opens_struct Tryz.underlying106 (by kernel_rfl) (opensFs_cons rfl (opens_str Tryz.underlying9 (by kernel_rfl)) (opensFs_cons rfl (opens_int Tryz.underlying3 (by kernel_rfl)) (opensFs_cons rfl (opens_bool Tryz.underlying4 (by kernel_rfl)) (opensFs_nil _)))))) (opensFs_cons rfl (opens_arr Tryz.underlying47 (by kernel_rfl) (opens_arr Tryz.underlying46 (by kernel_rfl) (opens_struct Tryz.underlying45 (by kernel_rfl) (opensFs_cons rfl (opens_bool Tryz.underlying4 (by kernel_rfl)) (opensFs_cons rfl (opens_slice Tryz.underlying24 (by kernel_rfl) (by decide) (opens_struct Tryz.underlying28 (by kernel_rfl) (opensFs_cons rfl (opens_int Tryz.underlying3 (by kernel_rfl)) (opensFs_cons rfl (opens_int Tryz.underlying3 (by kernel_rfl)) (opensFs_cons rfl (opens_int Tryz.underlying26 (by kernel_rfl)) (opensFs_cons rfl (opens_str Tryz.underlying9 (by kernel_rfl)) (opensFs_nil _))))))) (opensFs_nil _)))))) (opensFs_nil _)))))).2 _ _ _ _ _ _ hf
  obtain ⟨x0, rfl, _⟩ := okWide_struct Tryz.underlying49 (hval 0 49 v0 rfl rfl)
  have k1 := h1
  have lt1 : ∀ x ∈ p1, x.block < W.heap.size := by obtain ⟨m, hm⟩ := k1; exact DataW.trod_lt m _ _ _ hm
  obtain ⟨a1, ha1, hb1⟩ : ∃ a, (cInt .i64).rel W (lt W.heap.size) v1.cells.toList a ∧ (cInt .i64).bulk a ≤ Rows.uptoBulk d1 := by
    obtain ⟨fuel, hf⟩ := h1
    exact (opens_int Tryz.underlying3 (by kernel_rfl)).2 _ _ _ _ _ _ hf
  obtain ⟨x1, rfl⟩ := okWide_int Tryz.underlying3 (hval 1 3 v1 rfl rfl)
  have k2 := h2
  have lt2 : ∀ x ∈ p2, x.block < W.heap.size := by obtain ⟨m, hm⟩ := k2; exact DataW.trod_lt m _ _ _ hm
  obtain ⟨a2, ha2, hb2⟩ : ∃ a, cEx.rel W (lt W.heap.size) v2.cells.toList a ∧ cEx.bulk a ≤ Rows.uptoBulk d2 := by
    obtain ⟨fuel, hf⟩ := h2
    exact (opens_ex Tryz.underlying31 (by kernel_rfl) (by kernel_rfl) (opens_int Tryz.underlying3 (by kernel_rfl)) (opens_struct Tryz.underlying28 (by kernel_rfl) (opensFs_cons rfl (opens_int Tryz.underlying3 (by kernel_rfl)) (opensFs_cons rfl (opens_int Tryz.underlying3 (by kernel_rfl)) (opensFs_cons rfl (opens_int Tryz.underlying26 (by kernel_rfl)) (opensFs_cons rfl (opens_str Tryz.underlying9 (by kernel_rfl)) (opensFs_nil _)))))) (opens_str Tryz.underlying9 (by kernel_rfl)) Tryz.underlying29 (by kernel_rfl)).2 _ _ _ _ _ _ hf
  obtain ⟨x2, rfl, _⟩ := okWide_struct Tryz.underlying31 (hval 2 31 v2 rfl rfl)
  have k3 := h3
  have lt3 : ∀ x ∈ p3, x.block < W.heap.size := by obtain ⟨m, hm⟩ := k3; exact DataW.trod_lt m _ _ _ hm
  obtain ⟨a3, ha3, hb3⟩ : ∃ a, (cSlice (cStruct (cCons cStr (cCons cEx cEnd)))).rel W (lt W.heap.size) v3.cells.toList a ∧ (cSlice (cStruct (cCons cStr (cCons cEx cEnd)))).bulk a ≤ Rows.uptoBulk d3 := by
    obtain ⟨fuel, hf⟩ := h3
    exact (opens_slice Tryz.underlying25 (by kernel_rfl) (by decide) (opens_struct Tryz.underlying72 (by kernel_rfl) (opensFs_cons rfl (opens_str Tryz.underlying9 (by kernel_rfl)) (opensFs_cons rfl (opens_ex Tryz.underlying31 (by kernel_rfl) (by kernel_rfl) (opens_int Tryz.underlying3 (by kernel_rfl)) (opens_struct Tryz.underlying28 (by kernel_rfl) (opensFs_cons rfl (opens_int Tryz.underlying3 (by kernel_rfl)) (opensFs_cons rfl (opens_int Tryz.underlying3 (by kernel_rfl)) (opensFs_cons rfl (opens_int Tryz.underlying26 (by kernel_rfl)) (opensFs_cons rfl (opens_str Tryz.underlying9 (by kernel_rfl)) (opensFs_nil _)))))) (opens_str Tryz.underlying9 (by kernel_rfl)) Tryz.underlying29 (by kernel_rfl)) (opensFs_nil _))))).2 _ _ _ _ _ _ hf
  obtain ⟨A3, n3, c3, rfl⟩ := okWide_slice Tryz.underlying25 (hval 3 25 v3 rfl rfl)
  clear hA0
  refine (walkTableUpdates W x0 a0 ha0 x1 a1 ha1 x2 a2 ha2 A3 n3 c3 a3 ha3 (steps hL)).mono fun e W' ⟨he, bel⟩ => ?_
  subst he
  exact ⟨_, rfl, _, _, _, [], _, [], hW', trodAll_mk1 (shut_bool Tryz.underlying4 _), (trodAll_cons_mk (Below.trod laidOut (by kernel_rfl) (of_decide_eq_true (by kernel_rfl)) k0 bel lt0) (trodAll_cons_mk (Below.trod laidOut (by kernel_rfl) (of_decide_eq_true (by kernel_rfl)) k1 bel lt1) (trodAll_cons_mk (Below.trod laidOut (by kernel_rfl) (of_decide_eq_true (by kernel_rfl)) k2 bel lt2) (trodAll_cons_mk (Below.trod laidOut (by kernel_rfl) (of_decide_eq_true (by kernel_rfl)) k3 bel lt3) trodAll_mk0)))), rfl, bel.frame _, fun h => by cases h⟩

def layC (es : List E) : Obj → Obj
  | .cells _ t frozen => .cells (es.map E.vv).toArray t frozen
  | o => o
/-- a world for the witness: the tables laid -/
noncomputable def laidWorld (os : Os) : World :=
  { World.holding Tryz.prog os ⟨#[], #[], []⟩ with heap := (((World.holding Tryz.prog os ⟨#[], #[], []⟩).heap).modify 5 (layC fsE)).modify 6 (layC acE) }
def zArgs : Array Value := #[.agg #[.bool false, .string .empty, .slice none 0 0, .bool false, .slice none 0 0, .bool false, .slice none 0 0, .bool false, .slice none 0 0, .bool false, .slice none 0 0, .bool false, .slice none 0 0, .bool false, .slice none 0 0, .bool false, .slice none 0 0, .bool false, .slice none 0 0], .int .i64 0, .agg #[.int .i64 0, .int .i64 0, .int .i64 0, .int .u64 0, .string .empty, .string .empty, .slice none 0 0], .slice none 0 0]
theorem laid_met (os : Os) : laidMet Tryz.prog Rows.tableUpdatesRow.laid ((laidWorld os).forCall (fun _ _ => 0) ⟨#[], zArgs, []⟩).memory :=
  laidMet_of_run' 8 (by kernel_rfl) (by kernel_rfl)
theorem reads (os : Os) {H : Type} (enc : TypeId × Value → H) : ∃ places, DataW.whole enc Tryz.prog ((laidWorld os).forCall (fun _ _ => 0) ⟨#[], zArgs, []⟩).memory Tryz.f6.params.toList Rows.tableUpdatesSpec.vars false zArgs.toList 8 = some ([.agg [.lit (.bool false), .lit (.string []), .nil, .agg [.agg [.agg [.lit (.bool false), .nil], .agg [.lit (.bool false), .nil], .agg [.lit (.bool false), .nil], .agg [.lit (.bool false), .nil]], .agg [.agg [.lit (.bool false), .nil], .agg [.lit (.bool false), .nil], .agg [.lit (.bool false), .nil], .agg [.lit (.bool false), .nil]]]], .lit (.int .i64 0), .agg [.lit (.int .i64 0), .agg [.lit (.int .i64 0), .lit (.int .i64 0), .lit (.int .u64 0), .lit (.string [])], .lit (.string []), .nil], .nil], [], places) :=
  ⟨[], by kernel_rfl⟩

set_option maxRecDepth 100000 in
theorem lifted (os : Os) (started : os.Started) (H : Type) (enc : TypeId × Value → H) (F : Stop.Interp) :
    ReturnsInHanded {} Tryz.checked os 6 .any ((OpenSpec.ofChange Rows.tableUpdatesSpec).preRow enc Tryz.prog Tryz.f6 Rows.tableUpdatesRow.domain false Rows.tableUpdatesRow.laid) (((OpenSpec.ofChange Rows.tableUpdatesSpec).at F).post enc Tryz.prog Tryz.f6 false true false false) := by
  obtain ⟨places, hx⟩ := reads os enc
  refine returnsInHanded_of_row (C := Tryz.checked) (s := OpenSpec.ofChange Rows.tableUpdatesSpec) own started (by kernel_rfl) Tryz.func6
    (witness_row_at (enc := enc) (C := Tryz.checked) false (laidWorld os) zArgs rfl (by kernel_rfl) (by kernel_rfl) (by kernel_rfl)
      (OpenSpec.preRow_of_cond 8 hx (by kernel_rfl) (fun k hk => by cases hk) (by kernel_rfl) (laid_met os))) ?_
  intro W base args ds gs before hval hW _ _ _ hL _ _
  exact contract H enc W base args ds gs before hval hW hL

set_option maxHeartbeats 4000000 in
theorem said : Rows.TableUpdatesSaid :=
  OpenClaim.holds_of_cond 6 Tryz.f6 rfl rfl rfl rfl rfl rfl rfl ⟨rfl, rfl, rfl, rfl, rfl⟩ rfl rfl rfl rfl rfl (by kernel_rfl) Tryz.func6 (by
      simp only [joinedFacts, Bool.and_eq_true]
      repeat' refine And.intro ?_ ?_
      all_goals (as_aux_lemma => kernel_rfl))
    (of_decide_eq_true (by kernel_rfl)) (by unfold Func.isWrapper; first | (rw [if_pos (by decide +kernel)]; kernel_rfl) | (rw [if_neg (by decide +kernel)]; exact ⟨rfl, rfl⟩))
    (fun os started H enc _ F => by rw [OpenClaim.pre_eq_preRow]; exact lifted os started H enc F)
/-- No parameter wants a stand-in; the program looks at nothing by name. -/
theorem plain (f : FuncId) (fn : Func) (hf : Tryz.pinned.checked.prog.funcNamed "chirograph/chirographlaw.TableUpdates" = some f) (hfn : Tryz.pinned.checked.prog.funcs[f]? = some fn) :
    true = Tryz.pinned.checked.prog.looks [] ∧ ∀ (j : Nat) t, fn.params[j]? = some t → Tryz.pinned.checked.prog.wantsStandIn t = false := by
  obtain rfl : f = 6 := Option.some.inj ((show Tryz.prog.funcNamed "chirograph/chirographlaw.TableUpdates" = some 6 by kernel_rfl).symm.trans hf) |>.symm
  obtain rfl : fn = Tryz.f6 := (Option.some.inj (Tryz.func6.symm.trans hfn)).symm
  refine ⟨by kernel_rfl, fun j t ht => ?_⟩
  rw [Tryz.params6] at ht
  have hm : t = 49 ∨ t = 3 ∨ t = 31 ∨ t = 25 := by simpa using Array.mem_of_getElem? ht
  rcases hm with rfl | rfl | rfl | rfl
  · exact (show Tryz.prog.wantsStandIn 49 = false by kernel_rfl)
  · exact (show Tryz.prog.wantsStandIn 3 = false by kernel_rfl)
  · exact (show Tryz.prog.wantsStandIn 31 = false by kernel_rfl)
  · exact (show Tryz.prog.wantsStandIn 25 = false by kernel_rfl)
theorem proved : Rows.TableUpdatesCardSaid :=
  Claim7.holds_tied_plain_at .later [] _ _ _ _ said (fun _ h => by cases h) (by kernel_rfl) (fun _ h => by cases h) tableUpdates_row_tie rfl ⟨rfl, rfl⟩ (by kernel_rfl) rfl plain (by kernel_rfl)
end Go.Proofs.YthnadkafegmacaaGreatDoor.lawTableUpdates
