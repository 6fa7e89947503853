/- A call that stands under a guard; its arguments are data. No condition. -/
import Derived.Test.YtcdifgacoleckaaDoorAbE
import Derived.ScopeJumps
namespace Go.Proofs.YtcdifgacoleckaaDoor.Ab
open Go Go.RowKit

theorem allP_mem : ∀ {l : List Prop}, AllP l → ∀ p ∈ l, p
  | q :: r, h, p, hp => by
    rcases List.mem_cons.1 hp with rfl | hp
    · exact (AllP_cons.1 h).1
    · exact allP_mem (AllP_cons.1 h).2 p hp
theorem callG {P : Program} {X : Ctx} {nt : Nat} {ops : Array Oper} {o : Oper} {rest : List Oper} {tm : Nat → D} {m : Mem} {fo : Operand} {f t : Nat} {args : Array Operand} {ts : Array TypeId} {q : Prop} {as : List D} {r : D} {s'' : St} (hop : o.op = .call ⟨.value fo, args, ts⟩) (hgd : gdOf ops ⟨tm, m⟩ o = .iff q) (hfo : ((⟨tm, m⟩ : St).ev fo).strip = .one (.clo f []))
    (has : dataL m (args.toList.map fun x => ((⟨tm, m⟩ : St).ev x).strip) = some (as, [])) (hd : o.dst = some t) (hlt : Nat.blt t nt = true) (hnt : X.nt = nt) {ns : List Prop} (hns : needL ⟨tm, m⟩ (fo :: args.toList) = ns) (hn : q → AllP ns) (hfn : q → FnD P f as r) (k : Lex P X ops rest ⟨upd tm t (.gd q r), m⟩ s'') : Lex P X ops (o :: rest) ⟨tm, m⟩ s'' := by
  refine .cons (opT_callG hop hgd hfo has (fun hq => by rw [hns]; exact allP_mem (hn hq)) hfn (by rw [hd, hnt]; exact hlt)) ?_
  rw [hd]
  exact k
/-- the same in a region that draws its order -/
theorem callD {P : Program} {T : Nat → Option TI} {nt : Nat} {ops : Array Oper} {o : Oper} {rest : List Oper} {tm : Nat → D} {m : Mem} {fo : Operand} {f t : Nat} {args : Array Operand} {ts : Array TypeId} {as : List D} {r : D} {fps : List FP} {s'' : St} (hop : o.op = .call ⟨.value fo, args, ts⟩) (hgd : gdOf ops ⟨tm, m⟩ o = .free) (hfo : ((⟨tm, m⟩ : St).ev fo).strip = .one (.clo f []))
    (has : dataL m (args.toList.map fun x => ((⟨tm, m⟩ : St).ev x).strip) = some (as, [])) (hn : needL ⟨tm, m⟩ (fo :: args.toList) = []) (hd : o.dst = some t) (hlt : Nat.blt t nt = true) {rd : List Nat} (hrd : (fIds (rdsL ⟨tm, m⟩ o.op.operands.toList) fun rd => some rd) = some rd) (hfn : FnD P f as r) (k : LexD P T nt ops rest ⟨upd tm t r, m⟩ fps s'') : LexD P T nt ops (o :: rest) ⟨tm, m⟩ ((t :: rd, []) :: fps) s'' := by
  rw [fIds_eq] at hrd
  cases hrd
  refine .cons (d := r) (us := []) ⟨.call hop hgd hfo has (fun p hp => by rw [hn] at hp; cases hp) hfn (by rw [hd]; exact hlt), fun x hx k hk => inB_mem (List.mem_cons_of_mem _ (rdsL_ok x (by simpa using rdO_sub hx) k hk)), by rw [hd]; exact inB_mem (List.mem_cons_self ..), fun u hu => by cases hu⟩ ?_
  rw [hd]
  exact k
/-- the same in a region that draws its order -/
theorem callED {P : Program} {T : Nat → Option TI} {nt : Nat} {ops : Array Oper} {o : Oper} {rest : List Oper} {tm : Nat → D} {m : Mem} {fo : Operand} {f t : Nat} {args : Array Operand} {ts : Array TypeId} {as : List D} {r : D} {fps : List FP} {s'' : St} (hop : o.op = .call ⟨.value fo, args, ts⟩) (hgd : gdOf ops ⟨tm, m⟩ o = .free) (hfo : ((⟨tm, m⟩ : St).ev fo).strip = .one (.clo f []))
    (has : dataL m (args.toList.map fun x => ((⟨tm, m⟩ : St).ev x).strip) = some (as, [])) (hn : needL ⟨tm, m⟩ (fo :: args.toList) = []) (hd : o.dst = some t) (hlt : Nat.blt t nt = true) {rd : List Nat} (hrd : (fIds (rdsL ⟨tm, m⟩ o.op.operands.toList) fun rd => some rd) = some rd) (hfn : FnE P f as r) (k : LexD P T nt ops rest ⟨upd tm t r, m⟩ fps s'') : LexD P T nt ops (o :: rest) ⟨tm, m⟩ ((t :: rd, []) :: fps) s'' := by
  rw [fIds_eq] at hrd
  cases hrd
  refine .cons (d := r) (us := []) ⟨.ext hop hgd hfo has (fun p hp => by rw [hn] at hp; cases hp) hfn (by rw [hd]; exact hlt), fun x hx k hk => inB_mem (List.mem_cons_of_mem _ (rdsL_ok x (by simpa using rdO_sub hx) k hk)), by rw [hd]; exact inB_mem (List.mem_cons_self ..), fun u hu => by cases hu⟩ ?_
  rw [hd]
  exact k
/-- a call of a closure in a plain region -/
theorem callC {P : Program} {X : Ctx} {nt : Nat} {ops : Array Oper} {o : Oper} {rest : List Oper} {tm : Nat → D} {m : Mem} {fo : Operand} {f t : Nat} {caps : List (Nat × Nat × Nat)} {args : Array Operand} {ts : Array TypeId} {as : List D} {us : Upds} {r : D} {s'' : St} (hop : o.op = .call ⟨.value fo, args, ts⟩) (hgd : gdOf ops ⟨tm, m⟩ o = .free) (hfo : ((⟨tm, m⟩ : St).ev fo).strip = .one (.clo f caps))
    (has : dataL m ((args.toList.map fun x => ((⟨tm, m⟩ : St).ev x).strip) ++ capD caps) = some (as, us)) (hn : needL ⟨tm, m⟩ (fo :: args.toList) = []) (hd : o.dst = some t) (hlt : Nat.blt t nt = true) (hnt : X.nt = nt) (hfn : FnD P f as r) (k : Lex P X ops rest ⟨upd tm t r, updM m us⟩ s'') : Lex P X ops (o :: rest) ⟨tm, m⟩ s'' := by
  refine .cons (opT_callC (us := us) hop hgd hfo has (fun p hp => by rw [hn] at hp; cases hp) hfn (by rw [hd, hnt]; exact hlt)) ?_
  rw [hd]
  rw [updM_eq] at k
  exact k
theorem callGD {P : Program} {T : Nat → Option TI} {nt : Nat} {ops : Array Oper} {o : Oper} {rest : List Oper} {tm : Nat → D} {m : Mem} {fo : Operand} {f t : Nat} {args : Array Operand} {ts : Array TypeId} {q : Prop} {as : List D} {r : D} {fps : List FP} {s'' : St} (hop : o.op = .call ⟨.value fo, args, ts⟩) (hgd : gdOf ops ⟨tm, m⟩ o = .iff q) (hfo : ((⟨tm, m⟩ : St).ev fo).strip = .one (.clo f []))
    (has : dataL m (args.toList.map fun x => ((⟨tm, m⟩ : St).ev x).strip) = some (as, [])) (hd : o.dst = some t) (hlt : Nat.blt t nt = true) {rd : List Nat} (hrd : (fIds (rdsL ⟨tm, m⟩ o.op.operands.toList) fun rd => some rd) = some rd) {ns : List Prop} (hns : needL ⟨tm, m⟩ (fo :: args.toList) = ns) (hn : q → AllP ns) (hfn : q → FnD P f as r) (k : LexD P T nt ops rest ⟨upd tm t (.gd q r), m⟩ fps s'') : LexD P T nt ops (o :: rest) ⟨tm, m⟩ ((t :: rd, []) :: fps) s'' := by
  rw [fIds_eq] at hrd
  cases hrd
  refine .cons (d := .gd q r) (us := []) ⟨.callG hop hgd hfo has (fun hq => by rw [hns]; exact allP_mem (hn hq)) hfn (by rw [hd]; exact hlt), fun x hx k hk => inB_mem (List.mem_cons_of_mem _ (rdsL_ok x (by simpa using rdO_sub hx) k hk)), by rw [hd]; exact inB_mem (List.mem_cons_self ..), fun u hu => by cases hu⟩ ?_
  rw [hd]
  exact k
/-- a scope whose jumps go back to one label -/
def jumpQ (l : Nat) (K : St → Prop) (Q : Exit → St → Prop) : Exit → St → Prop
  | .goto l', s => l' = l ∧ K s
  | e, s => Q e s
theorem tr_scope {P : Program} {X : Ctx} {σ : Type} (H : σ → St) (J : σ → Prop) (m : σ → Nat) {c rest : Code} {s : St} {Q : Exit → St → Prop} (l : Nat) (hf : findLabel c l = some rest)
    (first : Tr P X c s (jumpQ l (fun s' => ∃ x', J x' ∧ Le X s' (H x')) Q))
    (pass : ∀ x, J x → Tr P X rest (H x) (jumpQ l (fun s' => ∃ x', J x' ∧ m x' < m x ∧ Le X s' (H x')) Q)) : Tr P X (.scope c) s Q := by
  intro a w hR b k cs
  have hg : gotoIn l (.inScope c :: k) = some (.code rest :: .inScope c :: k) := by simp [gotoIn, hf]
  have key : ∀ n x a w, m x = n → J x → R X (H x) a w →
      ∃ e a' w', (∃ s', Q e s' ∧ R X s' a' w') ∧ Arrives P (lone (b.at a (.code rest :: .inScope c :: k)) cs w) b k cs e a' w' := by
    intro n
    induction n using Nat.strongRecOn with
    | _ n ih =>
      intro x a w hn hJ hRx
      obtain ⟨e, a₁, w₁, ⟨s1, hq, hR1⟩, harr⟩ := pass x hJ a w hRx b (.inScope c :: k) cs
      cases e with
      | normal => exact ⟨.normal, a₁, w₁, ⟨s1, hq, hR1⟩, Steps.trans harr (.one step_inScope)⟩
      | exit id => exact ⟨.exit id, a₁, w₁, ⟨s1, hq, hR1⟩, fun k' hk => harr k' (by simp [exitTo, hk])⟩
      | goto l' =>
        obtain ⟨rfl, x', hJ', hlt, hle⟩ := hq
        obtain ⟨e₂, a₂, w₂, hq₂, harr₂⟩ := ih (m x') (hn ▸ hlt) x' a₁ w₁ rfl hJ' (hle _ _ hR1)
        exact ⟨e₂, a₂, w₂, hq₂, .of_steps (harr _ hg) harr₂⟩
      | ret => exact ⟨_, a₁, w₁, ⟨s1, hq, hR1⟩, harr⟩
      | panic ch => exact ⟨_, a₁, w₁, ⟨s1, hq, hR1⟩, harr⟩
      | outgrown => exact ⟨_, a₁, w₁, ⟨s1, hq, hR1⟩, harr⟩
  obtain ⟨e, a₁, w₁, ⟨s1, hq, hR1⟩, harr⟩ := first a w hR b (.inScope c :: k) cs
  cases e with
  | normal => exact ⟨.normal, a₁, w₁, ⟨s1, hq, hR1⟩, .head step_scope (Steps.trans harr (.one step_inScope))⟩
  | exit id => exact ⟨.exit id, a₁, w₁, ⟨s1, hq, hR1⟩, fun k' hk => .head step_scope (harr k' (by simp [exitTo, hk]))⟩
  | goto l' =>
    obtain ⟨rfl, x', hJ', hle⟩ := hq
    obtain ⟨e₂, a₂, w₂, hq₂, harr₂⟩ := key _ x' a₁ w₁ rfl hJ' (hle _ _ hR1)
    exact ⟨e₂, a₂, w₂, hq₂, .of_steps (.head step_scope (harr _ hg)) harr₂⟩
  | ret => exact ⟨_, a₁, w₁, ⟨s1, hq, hR1⟩, .of_steps (.one step_scope) harr⟩
  | panic ch => exact ⟨_, a₁, w₁, ⟨s1, hq, hR1⟩, .of_steps (.one step_scope) harr⟩
  | outgrown => exact ⟨_, a₁, w₁, ⟨s1, hq, hR1⟩, .of_steps (.one step_scope) harr⟩
theorem tr_label {P : Program} {X : Ctx} {l : Nat} {s : St} {Q : Exit → St → Prop} (h : Q .normal s) : Tr P X (.label l) s Q := fun _ _ hR => wp_label ⟨s, h, hR⟩
theorem tr_goto {P : Program} {X : Ctx} {l : Nat} {s : St} {Q : Exit → St → Prop} (h : Q (.goto l) s) : Tr P X (.goto l) s Q := fun _ _ hR => wp_goto ⟨s, h, hR⟩
/-- the same, where the label stands behind a first part -/
theorem tr_again {P : Program} {X : Ctx} {σ : Type} (H : σ → St) (J : σ → Prop) (m : σ → Nat) {pre r : Code} {s : St} {Q : Exit → St → Prop} (l : Nat) (hf : findLabel (.seq pre (.seq (.label l) r)) l = some (.seq .skip r))
    (first : Tr P X pre s (fun | .normal, s' => ∃ x', J x' ∧ Le X s' (H x') | .goto _, _ => False | e, s' => Q e s'))
    (pass : ∀ x, J x → Tr P X r (H x) (jumpQ l (fun s' => ∃ x', J x' ∧ m x' < m x ∧ Le X s' (H x')) Q)) : Tr P X (.scope (.seq pre (.seq (.label l) r))) s Q := by
  refine tr_scope H J m l hf (tr_seq (tr_mono first fun e s' h => ?_)) (fun x hx => tr_seq (tr_skip (pass x hx)))
  cases e with
  | normal =>
    obtain ⟨x', hJ, hle⟩ := h
    refine tr_seq (tr_label fun a w hR => wp_mono (pass x' hJ a w (hle a w hR)) fun e a' w' ⟨s2, h1, h2⟩ => ⟨s2, ?_, h2⟩)
    cases e with
    | goto l' =>
      obtain ⟨e1, x2, j1, _, j3⟩ := h1
      exact ⟨e1, x2, j1, j3⟩
    | _ => exact h1
  | goto l' => exact h.elim
  | _ => exact h
end Go.Proofs.YtcdifgacoleckaaDoor.Ab
