/- A call that stands under a guard; its arguments are data. No condition. -/
import Derived.Test.YtjabmeffgbaglaaDoorAbE
import Derived.ScopeJumps
namespace Go.Proofs.YtjabmeffgbaglaaDoor.Ab
open Go Go.RowKit
theorem allP_mem : ∀ {l : List Prop}, AllP l → ∀ p ∈ l, p
 | q :: r, h, p, hp => by
  rcases List.mem_cons.1 hp with rfl | hp
  ·exact (AllP_cons.1 h).1
  ·exact allP_mem (AllP_cons.1 h).2 p hp
theorem callG {P : Program} {X : Ctx} {nt : Nat} {ops : Array Oper} {o : Oper} {rest : List Oper} {tm : Nat → D} {m : Mem} {fo : Operand} {f t : Nat} {args : Array Operand} {ts : Array TypeId} {q : Prop} {as : List D} {r : D} {s'' : St} (hop : o.op = .call ⟨.value fo, args, ts⟩) (hgd : gdOf ops ⟨tm, m⟩ o = .iff q) (hfo : ((⟨tm, m⟩ : St).ev fo).strip = .one (.clo f []))
  (has : dataL m (args.toList.map fun x => ((⟨tm, m⟩ : St).ev x).strip) = some (as, [])) (hd : o.dst = some t) (hlt : Nat.blt t nt = true) (hnt : X.nt = nt) {ns : List Prop} (hns : needL ⟨tm, m⟩ (fo :: args.toList) = ns) (hn : q → AllP ns) (hfn : q → FnD P f as r) (k : Lex P X ops rest ⟨upd tm t (.gd q r), m⟩ s'') : Lex P X ops (o :: rest) ⟨tm, m⟩ s'' := by
 refine .cons (opT_callG hop hgd hfo has (fun hq => by rw [hns]; exact allP_mem (hn hq)) hfn (by rw [hd, hnt]; exact hlt)) ?_
 rw [hd]
 exact k
theorem callD {P : Program} {T : Nat → Option TI} {nt : Nat} {ops : Array Oper} {o : Oper} {rest : List Oper} {tm : Nat → D} {m : Mem} {fo : Operand} {f t : Nat} {args : Array Operand} {ts : Array TypeId} {as : List D} {r : D} {fps : List FP} {s'' : St} (hop : o.op = .call ⟨.value fo, args, ts⟩) (hgd : gdOf ops ⟨tm, m⟩ o = .free) (hfo : ((⟨tm, m⟩ : St).ev fo).strip = .one (.clo f []))
  (has : dataL m (args.toList.map fun x => ((⟨tm, m⟩ : St).ev x).strip) = some (as, [])) (hn : needL ⟨tm, m⟩ (fo :: args.toList) = []) (hd : o.dst = some t) (hlt : Nat.blt t nt = true) {rd : List Nat} (hrd : (fIds (rdsL ⟨tm, m⟩ o.op.operands.toList) fun rd => some rd) = some rd) (hfn : FnD P f as r) (k : LexD P T nt ops rest ⟨upd tm t r, m⟩ fps s'') : LexD P T nt ops (o :: rest) ⟨tm, m⟩ ((t :: rd, []) :: fps) s'' := by
 rw [fIds_eq] at hrd
 cases hrd
 refine .cons (d := r) (us := []) ⟨.call hop hgd hfo has (fun p hp => by rw [hn] at hp; cases hp) hfn (by rw [hd]; exact hlt), fun x hx k hk => inB_mem (List.mem_cons_of_mem _ (rdsL_ok x (by simpa using rdO_sub hx) k hk)), by rw [hd]; exact inB_mem (List.mem_cons_self ..), fun u hu => by cases hu⟩ ?_
 rw [hd]
 exact k
theorem callC {P : Program} {X : Ctx} {nt : Nat} {ops : Array Oper} {o : Oper} {rest : List Oper} {tm : Nat → D} {m : Mem} {fo : Operand} {f t : Nat} {caps : List (Nat × Nat × Nat)} {args : Array Operand} {ts : Array TypeId} {as : List D} {us : Upds} {r : D} {s'' : St} (hop : o.op = .call ⟨.value fo, args, ts⟩) (hgd : gdOf ops ⟨tm, m⟩ o = .free) (hfo : ((⟨tm, m⟩ : St).ev fo).strip = .one (.clo f caps))
  (has : dataL m ((args.toList.map fun x => ((⟨tm, m⟩ : St).ev x).strip) ++ capD caps) = some (as, us)) (hn : needL ⟨tm, m⟩ (fo :: args.toList) = []) (hd : o.dst = some t) (hlt : Nat.blt t nt = true) (hnt : X.nt = nt) (hfn : FnD P f as r) (k : Lex P X ops rest ⟨upd tm t r, updM m us⟩ s'') : Lex P X ops (o :: rest) ⟨tm, m⟩ s'' := by
 refine .cons (opT_callC (us := us) hop hgd hfo has (fun p hp => by rw [hn] at hp; cases hp) hfn (by rw [hd, hnt]; exact hlt)) ?_
 rw [hd]
 rw [updM_eq] at k
 exact k
theorem callGD {P : Program} {T : Nat → Option TI} {nt : Nat} {ops : Array Oper} {o : Oper} {rest : List Oper} {tm : Nat → D} {m : Mem} {fo : Operand} {f t : Nat} {args : Array Operand} {ts : Array TypeId} {q : Prop} {as : List D} {r : D} {fps : List FP} {s'' : St} (hop : o.op = .call ⟨.value fo, args, ts⟩) (hgd : gdOf ops ⟨tm, m⟩ o = .iff q) (hfo : ((⟨tm, m⟩ : St).ev fo).strip = .one (.clo f []))
  (has : dataL m (args.toList.map fun x => ((⟨tm, m⟩ : St).ev x).strip) = some (as, [])) (hd : o.dst = some t) (hlt : Nat.blt t nt = true) {rd : List Nat} (hrd : (fIds (rdsL ⟨tm, m⟩ o.op.operands.toList) fun rd => some rd) = some rd) {ns : List Prop} (hns : needL ⟨tm, m⟩ (fo :: args.toList) = ns) (hn : q → AllP ns) (hfn : q → FnD P f as r) (k : LexD P T nt ops rest ⟨upd tm t (.gd q r), m⟩ fps s'') : LexD P T nt ops (o :: rest) ⟨tm, m⟩ ((t :: rd, []) :: fps) s'' := by
 rw [fIds_eq] at hrd
 cases hrd
 refine .cons (d := .gd q r) (us := []) ⟨.callG hop hgd hfo has (fun hq => by rw [hns]; exact allP_mem (hn hq)) hfn (by rw [hd]; exact hlt), fun x hx k hk => inB_mem (List.mem_cons_of_mem _ (rdsL_ok x (by simpa using rdO_sub hx) k hk)), by rw [hd]; exact inB_mem (List.mem_cons_self ..), fun u hu => by cases hu⟩ ?_
 rw [hd]
 exact k
end Go.Proofs.YtjabmeffgbaglaaDoor.Ab
