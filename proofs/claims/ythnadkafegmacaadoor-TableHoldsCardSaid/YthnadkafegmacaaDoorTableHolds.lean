/- Rows.TableHoldsSaid: for every input that can be read the law returns true (the frame round the walk). -/
import Derived.Test.YthnadkafegmacaaDoorTableHoldsWalk
import Derived.Test.YthnadkafegmacaaDoorCards
import Derived.Test.YthnadkafegmacaaDoorTie
import Derived.OpenShut
import Derived.Deep.DeepHandedRow
import Derived.Test.YthnadkafegmacaaDoorGlob
namespace Go.Proofs.YthnadkafegmacaaDoor.lawTableHolds
open Go.ChangeShapes Go.WideShapes Go.ChangeAt Go.RowKit Go.Deep Go.Proofs.YthnadkafegmacaaDoor.Ab

theorem steps {W : World} (h : laidMetH Tryd.prog Rows.tableHoldsRow.laid W) : ∀ x ∈ gK, RepD p0 (CI W anyI) W (.one (.eptr x.2)) (.pointer (some ⟨x.1, 0, none⟩)) := by
  have h : laidMet Tryd.prog Rows.tableHoldsRow.laid W := h
  intro x hx
  rcases List.mem_cons.1 hx with rfl | hx
  · exact glob_reads h (x := Rows.tableHoldsRow.laid[1]) (List.getElem_mem _) (g := 3) (by kernel_rfl) (t := ((Tryd.prog.globals[3]?).map (·.type)).getD 0) (by kernel_rfl) (f := 1000) (es := fsE) (by kernel_rfl) (by kernel_rfl) (by kernel_rfl)
  rcases List.mem_cons.1 hx with rfl | hx
  · exact glob_reads h (x := Rows.tableHoldsRow.laid[0]) (List.getElem_mem _) (g := 4) (by kernel_rfl) (t := ((Tryd.prog.globals[4]?).map (·.type)).getD 0) (by kernel_rfl) (f := 1000) (es := acE) (by kernel_rfl) (by kernel_rfl) (by kernel_rfl)
  cases hx

theorem own : ownKnob Tryd.prog.godebug = none := by kernel_rfl
theorem laidOut : laidOutB Tryd.prog = true := by kernel_rfl

set_option maxRecDepth 100000 in
theorem contract (H : Type) (enc : TypeId × Value → H) (W : World) (base : Nat) (args : Array Value) (ds gs : List (DataW H)) (before : List MemPlace)
    (hval : ∀ (j : Nat) t v, Tryd.f10.params[j]? = some t → args[j]? = some v → Value.okWide Tryd.prog W .any base t v)
    (hW : DataW.Whole enc Tryd.prog Tryd.f10.params.toList Rows.tableHoldsSpec.vars false W args.toList ds gs before) (hL : laidMetH Tryd.prog Rows.tableHoldsRow.laid W) :
    Calls Tryd.prog 10 args W fun e W' => ∃ v, e = .returned v ∧ Rows.tableHoldsSpec.post enc Tryd.prog Tryd.f10 false true false false W args v W' := by
  have hW' := hW
  obtain ⟨p, q, hA0, hV, rfl, hfz, hnd⟩ := hW
  have hA : DataW.TrodAll enc Tryd.prog W 0 (fun _ => true) true Tryd.f10.params.toList args.toList ds p := hA0
  rw [Tryd.params10] at hA hval
  obtain ⟨v0, vs0, d0, ds0, p0, q0, hargs, rfl, rfl, h0, r0⟩ := trodAll_cons hA
  obtain ⟨v1, vs1, d1, ds1, p1, q1, rfl, rfl, rfl, h1, r1⟩ := trodAll_cons r0
  obtain ⟨v2, vs2, d2, ds2, p2, q2, rfl, rfl, rfl, h2, r2⟩ := trodAll_cons r1
  obtain ⟨rfl, rfl, rfl⟩ := trodAll_nil r2
  obtain rfl : args = #[v0, v1, v2] := by cases args; simp_all
  obtain ⟨rfl, rfl⟩ := trodVars_none hV
  have k0 := h0
  have lt0 : ∀ x ∈ p0, x.block < W.heap.size := by obtain ⟨m, hm⟩ := k0; exact DataW.trod_lt m _ _ _ hm
  obtain ⟨a0, ha0, hb0⟩ : ∃ a, cEx.rel W (lt W.heap.size) v0.cells.toList a ∧ cEx.bulk a ≤ Rows.uptoBulk d0 := by
    obtain ⟨fuel, hf⟩ := h0
    exact (opens_ex Tryd.underlying28 (by kernel_rfl) (by kernel_rfl) (opens_int Tryd.underlying3 (by kernel_rfl)) (opens_struct Tryd.underlying25 (by kernel_rfl) (opensFs_cons rfl (opens_int Tryd.underlying3 (by kernel_rfl)) (opensFs_cons rfl (opens_int Tryd.underlying3 (by kernel_rfl)) (opensFs_cons rfl (opens_int Tryd.underlying23 (by kernel_rfl)) (opensFs_cons rfl (opens_str Tryd.underlying9 (by kernel_rfl)) (opensFs_nil _)))))) (opens_str Tryd.underlying9 (by kernel_rfl)) Tryd.underlying26 (by kernel_rfl)).2 _ _ _ _ _ _ hf
  obtain ⟨x0, rfl, _⟩ := okWide_struct Tryd.underlying28 (hval 0 28 v0 rfl rfl)
  have k1 := h1
  have lt1 : ∀ x ∈ p1, x.block < W.heap.size := by obtain ⟨m, hm⟩ := k1; exact DataW.trod_lt m _ _ _ hm
  obtain ⟨a1, ha1, hb1⟩ : ∃ a, (cSlice (cStruct (cCons cStr (cCons (cInt .i64) (cCons cBool cEnd))))).rel W (lt W.heap.size) v1.cells.toList a ∧ (cSlice (cStruct (cCons cStr (cCons (cInt .i64) (cCons cBool cEnd))))).bulk a ≤ Rows.uptoBulk d1 := by
    obtain ⟨fuel, hf⟩ := h1
    exact (opens_slice Tryd.underlying45 (by kernel_rfl) (by decide) (opens_struct Tryd.underlying117 (by kernel_rfl) (opensFs_cons rfl (opens_str Tryd.underlying9 (by kernel_rfl)) (opensFs_cons rfl (opens_int Tryd.underlying3 (by kernel_rfl)) (opensFs_cons rfl (opens_bool Tryd.underlying4 (by kernel_rfl)) (opensFs_nil _)))))).2 _ _ _ _ _ _ hf
  obtain ⟨A1, n1, c1, rfl⟩ := okWide_slice Tryd.underlying45 (hval 1 45 v1 rfl rfl)
  have k2 := h2
  have lt2 : ∀ x ∈ p2, x.block < W.heap.size := by obtain ⟨m, hm⟩ := k2; exact DataW.trod_lt m _ _ _ hm
  obtain ⟨a2, ha2, hb2⟩ : ∃ a, (cSlice (cStruct (cCons (cInt .i64) (cCons (cInt .i64) (cCons (cInt .u64) (cCons cStr cEnd)))))).rel W (lt W.heap.size) v2.cells.toList a ∧ (cSlice (cStruct (cCons (cInt .i64) (cCons (cInt .i64) (cCons (cInt .u64) (cCons cStr cEnd)))))).bulk a ≤ Rows.uptoBulk d2 := by
    obtain ⟨fuel, hf⟩ := h2
    exact (opens_slice Tryd.underlying46 (by kernel_rfl) (by decide) (opens_struct Tryd.underlying25 (by kernel_rfl) (opensFs_cons rfl (opens_int Tryd.underlying3 (by kernel_rfl)) (opensFs_cons rfl (opens_int Tryd.underlying3 (by kernel_rfl)) (opensFs_cons rfl (opens_int Tryd.underlying23 (by kernel_rfl)) (opensFs_cons rfl (opens_str Tryd.underlying9 (by kernel_rfl)) (opensFs_nil _))))))).2 _ _ _ _ _ _ hf
  obtain ⟨A2, n2, c2, rfl⟩ := okWide_slice Tryd.underlying46 (hval 2 46 v2 rfl rfl)
  clear hA0
  refine (walkTableHolds W x0 a0 ha0 A1 n1 c1 a1 ha1 A2 n2 c2 a2 ha2 (steps hL)).mono fun e W' ⟨he, bel⟩ => ?_
  subst he
  exact ⟨_, rfl, _, _, _, [], _, [], hW', trodAll_mk1 (shut_bool Tryd.underlying4 _), (trodAll_cons_mk (Below.trod laidOut (by kernel_rfl) (of_decide_eq_true (by kernel_rfl)) k0 bel lt0) (trodAll_cons_mk (Below.trod laidOut (by kernel_rfl) (of_decide_eq_true (by kernel_rfl)) k1 bel lt1) (trodAll_cons_mk (Below.trod laidOut (by kernel_rfl) (of_decide_eq_true (by kernel_rfl)) k2 bel lt2) trodAll_mk0))), rfl, bel.frame _, fun h => by cases h⟩

def layC (es : List E) : Obj → Obj
  | .cells _ t frozen => .cells (es.map E.vv).toArray t frozen
  | o => o
/-- a world for the witness: the tables laid -/
noncomputable def laidWorld (os : Os) : World :=
  { World.holding Tryd.prog os ⟨#[], #[], []⟩ with heap := (((World.holding Tryd.prog os ⟨#[], #[], []⟩).heap).modify 3 (layC fsE)).modify 4 (layC acE) }
def zArgs : Array Value := #[.agg #[.int .i64 0, .int .i64 0, .int .i64 0, .int .u64 0, .string .empty, .string .empty, .slice none 0 0], .slice none 0 0, .slice none 0 0]
theorem laid_met (os : Os) : laidMet Tryd.prog Rows.tableHoldsRow.laid ((laidWorld os).forCall (fun _ _ => 0) ⟨#[], zArgs, []⟩).memory :=
  laidMet_of_run' 8 (by kernel_rfl) (by kernel_rfl)
theorem reads (os : Os) {H : Type} (enc : TypeId × Value → H) : ∃ places, DataW.whole enc Tryd.prog ((laidWorld os).forCall (fun _ _ => 0) ⟨#[], zArgs, []⟩).memory Tryd.f10.params.toList Rows.tableHoldsSpec.vars false zArgs.toList 8 = some ([.agg [.lit (.int .i64 0), .agg [.lit (.int .i64 0), .lit (.int .i64 0), .lit (.int .u64 0), .lit (.string [])], .lit (.string []), .nil], .nil, .nil], [], places) :=
  ⟨[], by kernel_rfl⟩

set_option maxRecDepth 100000 in
theorem lifted (os : Os) (started : os.Started) (H : Type) (enc : TypeId × Value → H) (F : Stop.Interp) :
    ReturnsInHanded {} Tryd.checked os 10 .any ((OpenSpec.ofChange Rows.tableHoldsSpec).preRow enc Tryd.prog Tryd.f10 Rows.tableHoldsRow.domain false Rows.tableHoldsRow.laid) (((OpenSpec.ofChange Rows.tableHoldsSpec).at F).post enc Tryd.prog Tryd.f10 false true false false) := by
  obtain ⟨places, hx⟩ := reads os enc
  refine returnsInHanded_of_row (C := Tryd.checked) (s := OpenSpec.ofChange Rows.tableHoldsSpec) own started (by kernel_rfl) Tryd.func10
    (witness_row_at (enc := enc) (C := Tryd.checked) false (laidWorld os) zArgs rfl (by kernel_rfl) (by kernel_rfl) (by kernel_rfl)
      (OpenSpec.preRow_of_cond 8 hx (by kernel_rfl) (fun k hk => by cases hk) (by kernel_rfl) (laid_met os))) ?_
  intro W base args ds gs before hval hW _ _ _ hL _ _
  exact contract H enc W base args ds gs before hval hW hL

theorem said : Rows.TableHoldsSaid :=
  OpenClaim.holds_of_cond 10 Tryd.f10 rfl rfl rfl rfl rfl rfl rfl ⟨rfl, rfl, rfl, rfl, rfl⟩ rfl rfl rfl rfl rfl (by kernel_rfl) Tryd.func10 (by kernel_rfl)
    (of_decide_eq_true (by kernel_rfl)) (by unfold Func.isWrapper; first | (rw [if_pos (by decide +kernel)]; kernel_rfl) | (rw [if_neg (by decide +kernel)]; exact ⟨rfl, rfl⟩))
    (fun os started H enc _ F => by rw [OpenClaim.pre_eq_preRow]; exact lifted os started H enc F)
/-- No parameter wants a stand-in; the program looks at nothing by name. -/
theorem plain (f : FuncId) (fn : Func) (hf : Tryd.pinned.checked.prog.funcNamed "chirograph/chirographlaw.TableHolds" = some f) (hfn : Tryd.pinned.checked.prog.funcs[f]? = some fn) :
    true = Tryd.pinned.checked.prog.looks [] ∧ ∀ (j : Nat) t, fn.params[j]? = some t → Tryd.pinned.checked.prog.wantsStandIn t = false := by
  obtain rfl : f = 10 := Option.some.inj ((show Tryd.prog.funcNamed "chirograph/chirographlaw.TableHolds" = some 10 by kernel_rfl).symm.trans hf) |>.symm
  obtain rfl : fn = Tryd.f10 := (Option.some.inj (Tryd.func10.symm.trans hfn)).symm
  refine ⟨by kernel_rfl, fun j t ht => ?_⟩
  rw [Tryd.params10] at ht
  have hm : t = 28 ∨ t = 45 ∨ t = 46 := by simpa using Array.mem_of_getElem? ht
  rcases hm with rfl | rfl | rfl
  · exact (show Tryd.prog.wantsStandIn 28 = false by kernel_rfl)
  · exact (show Tryd.prog.wantsStandIn 45 = false by kernel_rfl)
  · exact (show Tryd.prog.wantsStandIn 46 = false by kernel_rfl)
theorem proved : Rows.TableHoldsCardSaid :=
  Claim7.holds_tied_plain_at .later [] _ _ _ _ said (fun _ h => by cases h) (by kernel_rfl) (fun _ h => by cases h) tableHolds_row_tie rfl ⟨rfl, rfl⟩ (by kernel_rfl) rfl plain (by kernel_rfl)
end Go.Proofs.YthnadkafegmacaaDoor.lawTableHolds
