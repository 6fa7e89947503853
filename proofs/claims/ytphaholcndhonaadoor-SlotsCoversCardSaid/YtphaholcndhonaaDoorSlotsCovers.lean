/- Rows.SlotsCoversSaid: for every input that can be read the law returns true (the frame round the walk). -/
import Derived.Test.YtphaholcndhonaaDoorSlotsCoversWalk
import Derived.Test.YtphaholcndhonaaDoorCards
import Derived.Test.YtphaholcndhonaaDoorTie
import Derived.OpenShut
import Derived.Deep.DeepHandedRow
import Derived.Lib.LaidTab
namespace Go.Proofs.YtphaholcndhonaaDoor.lawSlotsCovers
open Go.ChangeShapes Go.WideShapes Go.ChangeAt Go.RowKit Go.Deep Go.Proofs.YtphaholcndhonaaDoor.Ab

theorem gTab : Tryd.prog.globalNamed "chirograph/sum.steps" = some 4 := by kernel_rfl
theorem gTabType : (Tryd.prog.globals[4]?).map (·.type) = some 252 := by kernel_rfl
theorem cellsT : Tryd.prog.cellsOf 252 = 64 := by kernel_rfl
theorem cellsE : Tryd.prog.cellsOf 220 = 1 := by kernel_rfl
theorem table {W : World} (h : laidMetH Tryd.prog Rows.slotsCoversRow.laid W) : Lib.TabIs Tryd.prog W "chirograph/sum.steps" .u32 (kW.map fun w => (w.toNat : Int)) :=
  Lib.tabIs_of_head (rest := []) gTab gTabType Tryd.underlying252 Tryd.underlying220 cellsE cellsT h
theorem steps {W : World} (h : laidMetH Tryd.prog Rows.slotsCoversRow.laid W) : ∀ x ∈ gK, RepD p0 (CI W anyI) W (.one (.eptr x.2)) (.pointer (some ⟨x.1, 0, none⟩)) := steps_of fun i hi => (table h).cell gTab i (by rw [List.length_map]; exact hi)

theorem own : ownKnob Tryd.prog.godebug = none := by kernel_rfl
theorem laidOut : laidOutB Tryd.prog = true := by kernel_rfl

set_option maxRecDepth 100000 in
theorem contract (H : Type) (enc : TypeId × Value → H) (W : World) (base : Nat) (args : Array Value) (ds gs : List (DataW H)) (before : List MemPlace)
    (hval : ∀ (j : Nat) t v, Tryd.f4.params[j]? = some t → args[j]? = some v → Value.okWide Tryd.prog W .any base t v)
    (hW : DataW.Whole enc Tryd.prog Tryd.f4.params.toList Rows.slotsCoversSpec.vars false W args.toList ds gs before) (hL : laidMetH Tryd.prog Rows.slotsCoversRow.laid W) :
    Calls Tryd.prog 4 args W fun e W' => ∃ v, e = .returned v ∧ Rows.slotsCoversSpec.post enc Tryd.prog Tryd.f4 false true false false W args v W' := by
  have hW' := hW
  obtain ⟨p, q, hA0, hV, rfl, hfz, hnd⟩ := hW
  have hA : DataW.TrodAll enc Tryd.prog W 0 (fun _ => true) true Tryd.f4.params.toList args.toList ds p := hA0
  rw [Tryd.params4] at hA hval
  obtain ⟨v0, vs0, d0, ds0, p0, q0, hargs, rfl, rfl, h0, r0⟩ := trodAll_cons hA
  obtain ⟨v1, vs1, d1, ds1, p1, q1, rfl, rfl, rfl, h1, r1⟩ := trodAll_cons r0
  obtain ⟨v2, vs2, d2, ds2, p2, q2, rfl, rfl, rfl, h2, r2⟩ := trodAll_cons r1
  obtain ⟨rfl, rfl, rfl⟩ := trodAll_nil r2
  obtain rfl : args = #[v0, v1, v2] := by cases args; simp_all
  obtain ⟨rfl, rfl⟩ := trodVars_none hV
  have k0 := h0
  have lt0 : ∀ x ∈ p0, x.block < W.heap.size := by obtain ⟨m, hm⟩ := k0; exact DataW.trod_lt m _ _ _ hm
  obtain ⟨a0, ha0, hb0⟩ : ∃ a, (cInt .i64).rel W (lt W.heap.size) v0.cells.toList a ∧ (cInt .i64).bulk a ≤ Rows.uptoBulk d0 := by
    obtain ⟨fuel, hf⟩ := h0
    exact (opens_int Tryd.underlying3 (by kernel_rfl)).2 _ _ _ _ _ _ hf
  obtain ⟨x0, rfl⟩ := okWide_int Tryd.underlying3 (hval 0 3 v0 rfl rfl)
  have k1 := h1
  have lt1 : ∀ x ∈ p1, x.block < W.heap.size := by obtain ⟨m, hm⟩ := k1; exact DataW.trod_lt m _ _ _ hm
  obtain ⟨a1, ha1, hb1⟩ : ∃ a, (cSlice (cStruct (cCons cBool (cCons (cSlice cByte) (cCons (cSlice cByte) cEnd))))).rel W (lt W.heap.size) v1.cells.toList a ∧ (cSlice (cStruct (cCons cBool (cCons (cSlice cByte) (cCons (cSlice cByte) cEnd))))).bulk a ≤ Rows.uptoBulk d1 := by
    obtain ⟨fuel, hf⟩ := h1
    exact (opens_slice Tryd.underlying23 (by kernel_rfl) (by decide) (opens_struct Tryd.underlying98 (by kernel_rfl) (opensFs_cons rfl (opens_bool Tryd.underlying4 (by kernel_rfl)) (opensFs_cons rfl (opens_slice Tryd.underlying27 (by kernel_rfl) (by decide) (opens_byte Tryd.underlying5 (by kernel_rfl))) (opensFs_cons rfl (opens_slice Tryd.underlying27 (by kernel_rfl) (by decide) (opens_byte Tryd.underlying5 (by kernel_rfl))) (opensFs_nil _)))))).2 _ _ _ _ _ _ hf
  obtain ⟨A1, n1, c1, rfl⟩ := okWide_slice Tryd.underlying23 (hval 1 23 v1 rfl rfl)
  have k2 := h2
  have lt2 : ∀ x ∈ p2, x.block < W.heap.size := by obtain ⟨m, hm⟩ := k2; exact DataW.trod_lt m _ _ _ hm
  obtain ⟨a2, ha2, hb2⟩ : ∃ a, (cSlice cBool).rel W (lt W.heap.size) v2.cells.toList a ∧ (cSlice cBool).bulk a ≤ Rows.uptoBulk d2 := by
    obtain ⟨fuel, hf⟩ := h2
    exact (opens_slice Tryd.underlying22 (by kernel_rfl) (by decide) (opens_bool Tryd.underlying4 (by kernel_rfl))).2 _ _ _ _ _ _ hf
  obtain ⟨A2, n2, c2, rfl⟩ := okWide_slice Tryd.underlying22 (hval 2 22 v2 rfl rfl)
  clear hA0
  refine (walkSlotsCovers W x0 a0 ha0 A1 n1 c1 a1 ha1 A2 n2 c2 a2 ha2 (steps hL)).mono fun e W' ⟨he, bel⟩ => ?_
  subst he
  exact ⟨_, rfl, _, _, _, [], _, [], hW', trodAll_mk1 (shut_bool Tryd.underlying4 _), (trodAll_cons_mk (Below.trod laidOut (by kernel_rfl) (of_decide_eq_true (by kernel_rfl)) k0 bel lt0) (trodAll_cons_mk (Below.trod laidOut (by kernel_rfl) (of_decide_eq_true (by kernel_rfl)) k1 bel lt1) (trodAll_cons_mk (Below.trod laidOut (by kernel_rfl) (of_decide_eq_true (by kernel_rfl)) k2 bel lt2) trodAll_mk0))), rfl, bel.frame _, fun h => by cases h⟩

/-- a world for the witness: the table laid -/
noncomputable def laidWorld (os : Os) : World :=
  { World.holding Tryd.prog os ⟨#[], #[], []⟩ with heap := (World.holding Tryd.prog os ⟨#[], #[], []⟩).heap.modify 4 fun
      | .cells _ t frozen => .cells (kW.map fun w => Value.int .u32 (w.toNat : Int)).toArray t frozen
      | o => o }
def zArgs : Array Value := #[.int .i64 0, .slice none 0 0, .slice none 0 0]
theorem laid_met (os : Os) : laidMet Tryd.prog Rows.slotsCoversRow.laid ((laidWorld os).forCall (fun _ _ => 0) ⟨#[], zArgs, []⟩).memory :=
  laidMet_of_run' 8 (by kernel_rfl) (by kernel_rfl)
theorem reads (os : Os) {H : Type} (enc : TypeId × Value → H) : ∃ places, DataW.whole enc Tryd.prog ((laidWorld os).forCall (fun _ _ => 0) ⟨#[], zArgs, []⟩).memory Tryd.f4.params.toList Rows.slotsCoversSpec.vars false zArgs.toList 8 = some ([.lit (.int .i64 0), .nil, .nil], [], places) :=
  ⟨[], by kernel_rfl⟩

set_option maxRecDepth 100000 in
theorem lifted (os : Os) (started : os.Started) (H : Type) (enc : TypeId × Value → H) (F : Stop.Interp) :
    ReturnsInHanded {} Tryd.checked os 4 .any ((OpenSpec.ofChange Rows.slotsCoversSpec).preRow enc Tryd.prog Tryd.f4 Rows.slotsCoversRow.domain false Rows.slotsCoversRow.laid) (((OpenSpec.ofChange Rows.slotsCoversSpec).at F).post enc Tryd.prog Tryd.f4 false true false false) := by
  obtain ⟨places, hx⟩ := reads os enc
  refine returnsInHanded_of_row (C := Tryd.checked) (s := OpenSpec.ofChange Rows.slotsCoversSpec) own started (by kernel_rfl) Tryd.func4
    (witness_row_at (enc := enc) (C := Tryd.checked) false (laidWorld os) zArgs rfl (by kernel_rfl) (by kernel_rfl) (by kernel_rfl)
      (OpenSpec.preRow_of_cond 8 hx (by kernel_rfl) (fun k hk => by cases hk) (by kernel_rfl) (laid_met os))) ?_
  intro W base args ds gs before hval hW _ _ _ hL _ _
  exact contract H enc W base args ds gs before hval hW hL

theorem said : Rows.SlotsCoversSaid :=
  OpenClaim.holds_of_cond 4 Tryd.f4 rfl rfl rfl rfl rfl rfl rfl ⟨rfl, rfl, rfl, rfl, rfl⟩ rfl rfl rfl rfl rfl (by kernel_rfl) Tryd.func4 (by kernel_rfl)
    (of_decide_eq_true (by kernel_rfl)) (by unfold Func.isWrapper; first | (rw [if_pos (by decide +kernel)]; kernel_rfl) | (rw [if_neg (by decide +kernel)]; exact ⟨rfl, rfl⟩))
    (fun os started H enc _ F => by rw [OpenClaim.pre_eq_preRow]; exact lifted os started H enc F)
/-- No parameter wants a stand-in; the program looks at nothing by name. -/
theorem plain (f : FuncId) (fn : Func) (hf : Tryd.pinned.checked.prog.funcNamed "chirograph/chirographlaw.SlotsCovers" = some f) (hfn : Tryd.pinned.checked.prog.funcs[f]? = some fn) :
    false = Tryd.pinned.checked.prog.looks [] ∧ ∀ (j : Nat) t, fn.params[j]? = some t → Tryd.pinned.checked.prog.wantsStandIn t = false := by
  obtain rfl : f = 4 := Option.some.inj ((show Tryd.prog.funcNamed "chirograph/chirographlaw.SlotsCovers" = some 4 by kernel_rfl).symm.trans hf) |>.symm
  obtain rfl : fn = Tryd.f4 := (Option.some.inj (Tryd.func4.symm.trans hfn)).symm
  refine ⟨by kernel_rfl, fun j t ht => ?_⟩
  rw [Tryd.params4] at ht
  have hm : t = 3 ∨ t = 23 ∨ t = 22 := by simpa using Array.mem_of_getElem? ht
  rcases hm with rfl | rfl | rfl
  · exact (show Tryd.prog.wantsStandIn 3 = false by kernel_rfl)
  · exact (show Tryd.prog.wantsStandIn 23 = false by kernel_rfl)
  · exact (show Tryd.prog.wantsStandIn 22 = false by kernel_rfl)
theorem proved : Rows.SlotsCoversCardSaid :=
  Claim7.holds_tied_plain_at .later [] _ _ _ _ said (fun _ h => by cases h) (by kernel_rfl) (fun _ h => by cases h) slotsCovers_row_tie rfl ⟨rfl, rfl⟩ (by kernel_rfl) rfl plain (by kernel_rfl)
end Go.Proofs.YtphaholcndhonaaDoor.lawSlotsCovers
