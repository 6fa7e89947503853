/- Rows.StmtShowsSaid: for every input that can be read the law returns true (the frame round the walk). -/
import Derived.Test.YtjabmeffgbaglaaDoorStmtShowsWalk
import Derived.Test.YtjabmeffgbaglaaDoorCards
import Derived.Test.YtjabmeffgbaglaaDoorTie
import Derived.OpenShut
import Derived.Deep.DeepWitnessRowRef
import Derived.Lib.SpaceR
import Derived.Deep.DeepHandedRow
import Derived.Test.YtjabmeffgbaglaaDoorGlob
import Derived.Test.YtjabmeffgbaglaaDoorStmtShowsLaid
namespace Go.Proofs.YtjabmeffgbaglaaDoor.lawStmtShows
open Go.ChangeShapes Go.WideShapes Go.ChangeAt Go.RowKit Go.Deep Go.Proofs.YtjabmeffgbaglaaDoor.Ab
set_option maxRecDepth 100000 in
theorem contract (H : Type) (enc : TypeId × Value → H) (W : World) (base : Nat) (args : Array Value) (ds gs : List (DataW H)) (before : List MemPlace)
  (hval : ∀ (j : Nat) t v, Tryd.f3.params[j]? = some t → args[j]? = some v → Value.okWide Tryd.prog W .any base t v)
  (hW : DataW.Whole enc Tryd.prog Tryd.f3.params.toList Rows.stmtShowsSpec.vars false W args.toList ds gs before) (hL : laidMetH Tryd.prog Rows.stmtShowsRow.laid W) :
  Calls Tryd.prog 3 args W fun e W' => ∃ v, e = .returned v ∧ Rows.stmtShowsSpec.post enc Tryd.prog Tryd.f3 false true false false W args v W' := by
 have hW' := hW
 obtain ⟨p, q, hA0, hV, rfl, hfz, hnd⟩ := hW
 have hA : DataW.TrodAll enc Tryd.prog W 0 (fun _ => true) true Tryd.f3.params.toList args.toList ds p := hA0
 rw [Tryd.params3] at hA hval
 obtain ⟨v0, vs0, d0, ds0, p0, q0, hargs, rfl, rfl, h0, r0⟩ := trodAll_cons hA
 obtain ⟨rfl, rfl, rfl⟩ := trodAll_nil r0
 obtain rfl : args = #[v0] := by cases args; simp_all
 obtain ⟨rfl, rfl⟩ := trodVars_none hV
 have k0 := h0
 have lt0 : ∀ x ∈ p0, x.block < W.heap.size := by obtain ⟨m, hm⟩ := k0; exact DataW.trod_lt m _ _ _ hm
 obtain ⟨a0, ha0, hb0⟩ : ∃ a, (cStruct (cCons (cInt .i64) (cCons (cInt .i64) (cCons cStr (cCons (cInt .i64) (cCons (cSlice (cStruct (cCons cStr (cCons (cInt .i64) (cCons cBool cEnd))))) (cCons (cSlice (cStruct (cCons (cInt .i64) (cCons (cInt .i64) (cCons (cInt .u64) (cCons cStr cEnd)))))) (cCons (cSlice (cStruct (cCons cStr (cCons cEx cEnd)))) (cCons cEx (cCons (cStruct (cCons (cSlice (cStruct (cCons (cInt .i64) (cCons cEx cEnd)))) (cCons cEx (cCons cStr (cCons (cSlice (cStruct (cCons (cInt .i64) (cCons cBool cEnd)))) (cCons cBool (cCons (cInt .i64) cEnd))))))) (cCons (cInt .i64) (cCons (cInt .i64) (cCons cBool cEnd))))))))))))).rel W (lt W.heap.size) v0.cells.toList a ∧ (cStruct (cCons (cInt .i64) (cCons (cInt .i64) (cCons cStr (cCons (cInt .i64) (cCons (cSlice (cStruct (cCons cStr (cCons (cInt .i64) (cCons cBool cEnd))))) (cCons (cSlice (cStruct (cCons (cInt .i64) (cCons (cInt .i64) (cCons (cInt .u64) (cCons cStr cEnd)))))) (cCons (cSlice (cStruct (cCons cStr (cCons cEx cEnd)))) (cCons cEx (cCons (cStruct (cCons (cSlice (cStruct (cCons (cInt .i64) (cCons cEx cEnd)))) (cCons cEx (cCons cStr (cCons (cSlice (cStruct (cCons (cInt .i64) (cCons cBool cEnd)))) (cCons cBool (cCons (cInt .i64) cEnd))))))) (cCons (cInt .i64) (cCons (cInt .i64) (cCons cBool cEnd))))))))))))).bulk a ≤ Rows.uptoBulk d0 := by
  obtain ⟨fuel, hf⟩ := h0
  exact (opens_struct Tryd.underlying36 (by kernel_rfl) (opensFs_cons rfl (opens_int Tryd.underlying3 (by kernel_rfl)) (opensFs_cons rfl (opens_int Tryd.underlying3 (by kernel_rfl)) (opensFs_cons rfl (opens_str Tryd.underlying9 (by kernel_rfl)) (opensFs_cons rfl (opens_int Tryd.underlying3 (by kernel_rfl)) (opensFs_cons rfl (opens_slice Tryd.underlying22 (by kernel_rfl) (by decide) (opens_struct Tryd.underlying54 (by kernel_rfl) (opensFs_cons rfl (opens_str Tryd.underlying9 (by kernel_rfl)) (opensFs_cons rfl (opens_int Tryd.underlying3 (by kernel_rfl)) (opensFs_cons rfl (opens_bool Tryd.underlying4 (by kernel_rfl)) (opensFs_nil _)))))) (opensFs_cons rfl (opens_slice Tryd.underlying23 (by kernel_rfl) (by decide) (opens_struct Tryd.underlying27 (by kernel_rfl) (opensFs_cons rfl (opens_int Tryd.underlying3 (by kernel_rfl)) (opensFs_cons rfl (opens_int Tryd.underlying3 (by kernel_rfl)) (opensFs_cons rfl (opens_int Tryd.underlying25 (by kernel_rfl)) (opensFs_cons rfl (opens_str Tryd.underlying9 (by kernel_rfl)) (opensFs_nil _))))))) (opensFs_cons rfl (opens_slice Tryd.underlying24 (by kernel_rfl) (by decide) (opens_struct Tryd.underlying60 (by kernel_rfl) (opensFs_cons rfl (opens_str Tryd.underlying9 (by kernel_rfl)) (opensFs_cons rfl (opens_ex Tryd.underlying30 (by kernel_rfl) (by kernel_rfl) (opens_int Tryd.underlying3 (by kernel_rfl)) (opens_struct Tryd.underlying27 (by kernel_rfl) (opensFs_cons rfl (opens_int Tryd.underlying3 (by kernel_rfl)) (opensFs_cons rfl (opens_int Tryd.underlying3 (by kernel_rfl)) (opensFs_cons rfl (opens_int Tryd.underlying25 (by kernel_rfl)) (opensFs_cons rfl (opens_str Tryd.underlying9 (by kernel_rfl)) (opensFs_nil _)))))) (opens_str Tryd.underlying9 (by kernel_rfl)) Tryd.underlying28 (by kernel_rfl)) (opensFs_nil _))))) (opensFs_cons rfl (opens_ex Tryd.underlying30 (by kernel_rfl) (by kernel_rfl) (opens_int Tryd.underlying3 (by kernel_rfl)) (opens_struct Tryd.underlying27 (by kernel_rfl) (opensFs_cons rfl (opens_int Tryd.underlying3 (by kernel_rfl)) (opensFs_cons rfl (opens_int Tryd.underlying3 (by kernel_rfl)) (opensFs_cons rfl (opens_int Tryd.underlying25 (by kernel_rfl)) (opensFs_cons rfl (opens_str Tryd.underlying9 (by kernel_rfl)) (opensFs_nil _)))))) (opens_str Tryd.underlying9 (by kernel_rfl)) Tryd.underlying28 (by kernel_rfl)) (opensFs_cons rfl (opens_struct Tryd.underlying34 (by kernel_rfl) (opensFs_cons rfl (opens_slice Tryd.underlying31 (by kernel_rfl) (by decide) (opens_struct Tryd.underlying79 (by kernel_rfl) (opensFs_cons rfl (opens_int Tryd.underlying3 (by kernel_rfl)) (opensFs_cons rfl (opens_ex Tryd.underlying30 (by kernel_rfl) (by kernel_rfl) (opens_int Tryd.underlying3 (by kernel_rfl)) (opens_struct Tryd.underlying27 (by kernel_rfl) (opensFs_cons rfl (opens_int Tryd.underlying3 (by kernel_rfl)) (opensFs_cons rfl (opens_int Tryd.underlying3 (by kernel_rfl)) (opensFs_cons rfl (opens_int Tryd.underlying25 (by kernel_rfl)) (opensFs_cons rfl (opens_str Tryd.underlying9 (by kernel_rfl)) (opensFs_nil _)))))) (opens_str Tryd.underlying9 (by kernel_rfl)) Tryd.underlying28 (by kernel_rfl)) (opensFs_nil _))))) (opensFs_cons rfl (opens_ex Tryd.underlying30 (by kernel_rfl) (by kernel_rfl) (opens_int Tryd.underlying3 (by kernel_rfl)) (opens_struct Tryd.underlying27 (by kernel_rfl) (opensFs_cons rfl (opens_int Tryd.underlying3 (by kernel_rfl)) (opensFs_cons rfl (opens_int Tryd.underlying3 (by kernel_rfl)) (opensFs_cons rfl (opens_int Tryd.underlying25 (by kernel_rfl)) (opensFs_cons rfl (opens_str Tryd.underlying9 (by kernel_rfl)) (opensFs_nil _)))))) (opens_str Tryd.underlying9 (by kernel_rfl)) Tryd.underlying28 (by kernel_rfl)) (opensFs_cons rfl (opens_str Tryd.underlying9 (by kernel_rfl)) (opensFs_cons rfl (opens_slice Tryd.underlying32 (by kernel_rfl) (by decide) (opens_struct Tryd.underlying86 (by kernel_rfl) (opensFs_cons rfl (opens_int Tryd.underlying3 (by kernel_rfl)) (opensFs_cons rfl (opens_bool Tryd.underlying4 (by kernel_rfl)) (opensFs_nil _))))) (opensFs_cons rfl (opens_bool Tryd.underlying4 (by kernel_rfl)) (opensFs_cons rfl (opens_int Tryd.underlying3 (by kernel_rfl)) (opensFs_nil _)))))))) (opensFs_cons rfl (opens_int Tryd.underlying3 (by kernel_rfl)) (opensFs_cons rfl (opens_int Tryd.underlying3 (by kernel_rfl)) (opensFs_cons rfl (opens_bool Tryd.underlying4 (by kernel_rfl)) (opensFs_nil _)))))))))))))).2 _ _ _ _ _ _ hf
 obtain ⟨x0, rfl, _⟩ := okWide_struct Tryd.underlying36 (hval 0 36 v0 rfl rfl)
 clear hA0
 refine (walkStmtShows W x0 a0 ha0 (steps hL)).mono fun e W' ⟨he, bel⟩ => ?_
 subst he
 exact ⟨_, rfl, _, _, _, [], _, [], hW', trodAll_mk1 (shut_bool Tryd.underlying4 _), (trodAll_cons_mk (Below.trod laidOut (by kernel_rfl) (of_decide_eq_true (by kernel_rfl)) k0 bel lt0) trodAll_mk0), rfl, bel.frame _, fun h => by cases h⟩
theorem reads (os : Os) {H : Type} (enc : TypeId × Value → H) : ∃ places, DataW.whole enc Tryd.prog ((laidWorld os).forCall (fun _ _ => 0) ⟨#[], zArgs, []⟩).memory Tryd.f3.params.toList Rows.stmtShowsSpec.vars false zArgs.toList 8 = some ([.agg [.lit (.int .i64 0), .lit (.int .i64 0), .lit (.string []), .lit (.int .i64 0), .nil, .nil, .nil, .agg [.lit (.int .i64 0), .agg [.lit (.int .i64 0), .lit (.int .i64 0), .lit (.int .u64 0), .lit (.string [])], .lit (.string []), .nil], .agg [.nil, .agg [.lit (.int .i64 0), .agg [.lit (.int .i64 0), .lit (.int .i64 0), .lit (.int .u64 0), .lit (.string [])], .lit (.string []), .nil], .lit (.string []), .nil, .lit (.bool false), .lit (.int .i64 0)], .lit (.int .i64 0), .lit (.int .i64 0), .lit (.bool false)]], [], places) :=
 ⟨[], by kernel_rfl⟩
set_option maxRecDepth 100000 in
theorem lifted (os : Os) (started : os.Started) (H : Type) (enc : TypeId × Value → H) (F : Stop.Interp) :
  ReturnsInHanded {} Tryd.checked os 3 .any ((OpenSpec.ofChange Rows.stmtShowsSpec).preRow enc Tryd.prog Tryd.f3 Rows.stmtShowsRow.domain false Rows.stmtShowsRow.laid) (((OpenSpec.ofChange Rows.stmtShowsSpec).at F).post enc Tryd.prog Tryd.f3 false true false false) := by
 obtain ⟨places, hx⟩ := reads os enc
 refine returnsInHanded_of_row (C := Tryd.checked) (s := OpenSpec.ofChange Rows.stmtShowsSpec) own started (by kernel_rfl) Tryd.func3
  (witness_row_atRef (enc := enc) (C := Tryd.checked) false (laidWorld os) zArgs rfl (by kernel_rfl) (by kernel_rfl) (by kernel_rfl)
   (OpenSpec.preRow_of_cond 8 hx (by kernel_rfl) (fun k hk => by cases hk) (by kernel_rfl) (laid_met os))) ?_
 intro W base args ds gs before hval hW _ _ _ hL _ _
 exact contract H enc W base args ds gs before hval hW hL
theorem said : Rows.StmtShowsSaid :=
 OpenClaim.holds_of_cond 3 Tryd.f3 rfl rfl rfl rfl rfl rfl rfl ⟨rfl, rfl, rfl, rfl, rfl⟩ rfl rfl rfl rfl rfl (by kernel_rfl) Tryd.func3 (by kernel_rfl)
  (of_decide_eq_true (by kernel_rfl)) (by unfold Func.isWrapper; first | (rw [if_pos (by decide +kernel)]; kernel_rfl) | (rw [if_neg (by decide +kernel)]; exact ⟨rfl, rfl⟩))
  (fun os started H enc _ F => by rw [OpenClaim.pre_eq_preRow]; exact lifted os started H enc F)
theorem plain (f : FuncId) (fn : Func) (hf : Tryd.pinned.checked.prog.funcNamed "chirograph/chirographlaw.StmtShows" = some f) (hfn : Tryd.pinned.checked.prog.funcs[f]? = some fn) :
  false = Tryd.pinned.checked.prog.looks [] ∧ ∀ (j : Nat) t, fn.params[j]? = some t → Tryd.pinned.checked.prog.wantsStandIn t = false := by
 obtain rfl : f = 3 := Option.some.inj ((show Tryd.prog.funcNamed "chirograph/chirographlaw.StmtShows" = some 3 by kernel_rfl).symm.trans hf) |>.symm
 obtain rfl : fn = Tryd.f3 := (Option.some.inj (Tryd.func3.symm.trans hfn)).symm
 refine ⟨by kernel_rfl, fun j t ht => ?_⟩
 rw [Tryd.params3] at ht
 have hm : t = 36 := by simpa using Array.mem_of_getElem? ht
 subst hm
 exact (show Tryd.prog.wantsStandIn 36 = false by kernel_rfl)
theorem proved : Rows.StmtShowsCardSaid :=
 Claim7.holds_tied_plain_at .later [] _ _ _ _ said (fun _ h => by cases h) (by kernel_rfl) (fun _ h => by cases h) stmtShows_row_tie rfl ⟨rfl, rfl⟩ (by kernel_rfl) rfl plain (by kernel_rfl)
end Go.Proofs.YtjabmeffgbaglaaDoor.lawStmtShows
