/- Runs of regions that draw their order; calls. No condition. -/
import Derived.Test.YtcjeeoimjkhijaaDoorAb23
namespace Go.Proofs.YtcjeeoimjkhijaaDoor.Ab
open Go Go.RowKit

def fIds {α : Type} (l : List Nat) (k : List Nat → α) : α :=
  match l with
  | [] => k []
  | x :: r => fIds r fun r => k (x :: r)
theorem fIds_eq {α : Type} (l : List Nat) (k : List Nat → α) : fIds l k = k l := by
  induction l generalizing k with
  | nil => rfl
  | cons x r ih => simp only [fIds, ih]
def rdsL (s : St) : List Operand → List Nat
  | [] => []
  | x :: r => idsD (s.ev x) ++ rdsL s r
theorem rdsL_ok {s : St} : ∀ {l : List Operand}, ∀ x ∈ l, ∀ k ∈ idsD (s.ev x), k ∈ rdsL s l
  | [], x, hx, _, _ => by cases hx
  | y :: r, x, hx, k, hk => by
    rw [rdsL]
    rcases List.mem_cons.1 hx with rfl | hx
    · exact List.mem_append_left _ hk
    · exact List.mem_append_right _ (rdsL_ok x hx k hk)
theorem inB_mem : ∀ {l : List Nat} {k : Nat}, k ∈ l → inB l k = true
  | [], k, h => by cases h
  | a :: l, k, h => by
    simp only [inB, Bool.or_eq_true]
    rcases List.mem_cons.1 h with rfl | h
    · exact .inl (Nat.beq_refl _)
    · exact .inr (inB_mem h)

structure RanD where
  ps : List Prop
  tm : Nat → D
  mem : Mem
  rest : List Oper
  fps : List FP

def runD (T : Nat → Option TI) (nt : Nat) (ops : Array Oper) : List Oper → List Prop → (Nat → D) → Mem → Option RanD
  | [], ps, tm, m => some ⟨ps, tm, m, [], []⟩
  | o :: r, ps, tm, m =>
    bif isGo o.op then some ⟨ps, tm, m, o :: r, []⟩ else
    match stepE T nt ops ⟨tm, m⟩ o with
    | some ⟨φ, d, us⟩ => fD d fun d => fU us fun us => fIds (rdsL ⟨tm, m⟩ (rdO o.op)) fun rd =>
      match o.dst, us with
      | some t, [] =>
        match runD T nt ops r (φ :: ps) (upd tm t d) m with
        | some ⟨a, b, c, e, f⟩ => some ⟨a, b, c, e, (t :: rd, []) :: f⟩
        | none => none
      | some t, [(i, b)] =>
        match runD T nt ops r (φ :: ps) (upd tm t d) (upd m i (some b)) with
        | some ⟨a, b, c, e, f⟩ => some ⟨a, b, c, e, (t :: rd, [i]) :: f⟩
        | none => none
      | none, [(i, b)] =>
        match runD T nt ops r (φ :: ps) tm (upd m i (some b)) with
        | some ⟨a, b, c, e, f⟩ => some ⟨a, b, c, e, (0 :: rd, [i]) :: f⟩
        | none => none
      | some t, us =>
        match runD T nt ops r (φ :: ps) (upd tm t d) (updM m us) with
        | some ⟨a, b, c, e, f⟩ => some ⟨a, b, c, e, (t :: rd, us.map (·.1)) :: f⟩
        | none => none
      | none, us =>
        match runD T nt ops r (φ :: ps) tm (updM m us) with
        | some ⟨a, b, c, e, f⟩ => some ⟨a, b, c, e, (0 :: rd, us.map (·.1)) :: f⟩
        | none => none
    | none => none

section
variable {P : Program} {T : Nat → Option TI} {X : Ctx} {nt : Nat} {ops : Array Oper}
theorem runD_mem : ∀ {l : List Oper} {ps : List Prop} {tm : Nat → D} {m : Mem} {q : RanD}, runD T nt ops l ps tm m = some q → (AllP q.ps → AllP ps) ∧ ∀ s'' fps', AllP q.ps → LexD P T nt ops q.rest ⟨q.tm, q.mem⟩ fps' s'' → LexD P T nt ops l ⟨tm, m⟩ (q.fps ++ fps') s''
  | [], ps, tm, m, q, h => by cases h; exact ⟨id, fun s'' _ _ k => k⟩
  | o :: r, ps, tm, m, q, h => by
    rw [runD] at h
    cases hg : isGo o.op with
    | true => simp only [hg, cond_true, Option.some.injEq] at h; subst h; exact ⟨id, fun s'' _ _ k => k⟩
    | false =>
      simp only [hg, cond_false] at h
      split at h
      · rename_i φ d us he
        simp only [fD_eq, fU_eq, fIds_eq] at h
        have key : ∃ q', runD T nt ops r (φ :: ps) (match o.dst with | some t => upd tm t d | none => tm) (appU m us) = some q' ∧ q.ps = q'.ps ∧ q.tm = q'.tm ∧ q.mem = q'.mem ∧ q.rest = q'.rest ∧ q.fps = (dstId o.dst :: rdsL ⟨tm, m⟩ (rdO o.op), us.map (·.1)) :: q'.fps := by
          split at h
          · rename_i t hd
            rw [hd]
            split at h
            · rename_i a b c e f hq; cases h; exact ⟨_, hq, rfl, rfl, rfl, rfl, rfl⟩
            · cases h
          · rename_i t i b hd
            rw [hd]
            split at h
            · rename_i a b c e f hq; cases h; exact ⟨_, hq, rfl, rfl, rfl, rfl, rfl⟩
            · cases h
          · rename_i i b hd
            rw [hd]
            split at h
            · rename_i a b c e f hq; cases h; exact ⟨_, hq, rfl, rfl, rfl, rfl, rfl⟩
            · cases h
          · rename_i t hd _ _
            rw [hd]
            rw [updM_eq] at h
            split at h
            · rename_i a b c e f hq; cases h; exact ⟨_, hq, rfl, rfl, rfl, rfl, rfl⟩
            · cases h
          · rename_i hd _
            rw [hd]
            rw [updM_eq] at h
            split at h
            · rename_i a b c e f hq; cases h; exact ⟨_, hq, rfl, rfl, rfl, rfl, rfl⟩
            · cases h
        obtain ⟨q', hq', e1, e2, e3, e4, e5⟩ := key
        obtain ⟨h1, h2⟩ := runD_mem hq'
        rw [e1, e2, e3, e4, e5]
        refine ⟨fun ha => (AllP_cons.1 (h1 ha)).2, fun s'' fps' ha k => ?_⟩
        rw [List.cons_append]
        refine .cons ⟨.op he (AllP_cons.1 (h1 ha)).1, fun x hx k hk => inB_mem (List.mem_cons_of_mem _ (rdsL_ok x hx k hk)), inB_mem (List.mem_cons_self ..), fun u hu => inB_mem (List.mem_map.2 ⟨u, hu, rfl⟩)⟩ ?_
        exact h2 s'' fps' ha k
      · cases h

/-- operations of a region that draws, up to the next call -/
theorem lexD {l : List Oper} {tm : Nat → D} {m : Mem} {ps : List Prop} {tm' : Nat → D} {m' : Mem} {rest : List Oper} {fps fps' : List FP} {s'' : St} (h : runD T nt ops l [] tm m = some ⟨ps, tm', m', rest, fps⟩) (hp : AllP ps) (k : LexD P T nt ops rest ⟨tm', m'⟩ fps' s'') : LexD P T nt ops l ⟨tm, m⟩ (fps ++ fps') s'' :=
  (runD_mem h).2 s'' fps' hp k
/-- a region that draws its order, without calls -/
theorem regD (hT : TOk P T) (hm : P.follows .mixedOrders = true) (hnt : X.nt = nt) {id : Nat} {tm : Nat → D} {m : Mem} {ps : List Prop} {tm' : Nat → D} {m' : Mem} {fps : List FP} {Q : Exit → St → Prop} (h : runD T nt ops ops.toList [] tm m = some ⟨ps, tm', m', [], fps⟩)
    (hB : lexX .any ops fps ops.size 0 (Array.replicate ops.size false) = true) (hp : AllP ps) (k : Q .normal ⟨tm', m'⟩) : Tr P X (.region id ops true) ⟨tm, m⟩ Q := by
  have := lexD (P := P) (fps' := []) h hp (.nil _)
  rw [List.append_nil] at this
  exact tr_draw hT hnt hm this hB k

/-- a call whose arguments are data -/
theorem call {o : Oper} {rest : List Oper} {tm : Nat → D} {m : Mem} {fo : Operand} {f t : Nat} {args : Array Operand} {ts : Array TypeId} {as : List D} {r : D} {s'' : St} (hop : o.op = .call ⟨.value fo, args, ts⟩) (hgd : gdOf ops ⟨tm, m⟩ o = .free) (hfo : ((⟨tm, m⟩ : St).ev fo).strip = .one (.clo f []))
    (has : dataL m (args.toList.map fun x => ((⟨tm, m⟩ : St).ev x).strip) = some (as, [])) (hn : needL ⟨tm, m⟩ (fo :: args.toList) = []) (hd : o.dst = some t) (hlt : Nat.blt t nt = true) (hnt : X.nt = nt) (hfn : FnD P f as r) (k : Lex P X ops rest ⟨upd tm t r, m⟩ s'') : Lex P X ops (o :: rest) ⟨tm, m⟩ s'' := by
  refine .cons (opT_call (us := []) hop hgd hfo has (fun p hp => by rw [hn] at hp; cases hp) hfn (by rw [hd, hnt]; exact hlt)) ?_
  rw [hd]
  exact k
/-- a call of what the model does itself -/
theorem callE {o : Oper} {rest : List Oper} {tm : Nat → D} {m : Mem} {fo : Operand} {f t : Nat} {args : Array Operand} {ts : Array TypeId} {as : List D} {r : D} {s'' : St} (hop : o.op = .call ⟨.value fo, args, ts⟩) (hgd : gdOf ops ⟨tm, m⟩ o = .free) (hfo : ((⟨tm, m⟩ : St).ev fo).strip = .one (.clo f []))
    (has : dataL m (args.toList.map fun x => ((⟨tm, m⟩ : St).ev x).strip) = some (as, [])) (hn : needL ⟨tm, m⟩ (fo :: args.toList) = []) (hd : o.dst = some t) (hlt : Nat.blt t nt = true) (hnt : X.nt = nt) (hfn : FnE P f as r) (k : Lex P X ops rest ⟨upd tm t r, m⟩ s'') : Lex P X ops (o :: rest) ⟨tm, m⟩ s'' := by
  refine .cons (opT_ext (us := []) hop hgd hfo has (fun p hp => by rw [hn] at hp; cases hp) hfn (by rw [hd, hnt]; exact hlt)) ?_
  rw [hd]
  exact k
/-- a call, some arguments own: they are published -/
theorem callU {o : Oper} {rest : List Oper} {tm : Nat → D} {m : Mem} {fo : Operand} {f t : Nat} {args : Array Operand} {ts : Array TypeId} {as : List D} {us : Upds} {r : D} {s'' : St} (hop : o.op = .call ⟨.value fo, args, ts⟩) (hgd : gdOf ops ⟨tm, m⟩ o = .free) (hfo : ((⟨tm, m⟩ : St).ev fo).strip = .one (.clo f []))
    (has : dataL m (args.toList.map fun x => ((⟨tm, m⟩ : St).ev x).strip) = some (as, us)) (hn : needL ⟨tm, m⟩ (fo :: args.toList) = []) (hd : o.dst = some t) (hlt : Nat.blt t nt = true) (hnt : X.nt = nt) (hfn : FnD P f as r) (k : Lex P X ops rest ⟨upd tm t r, updM m us⟩ s'') : Lex P X ops (o :: rest) ⟨tm, m⟩ s'' := by
  refine .cons (opT_call (us := us) hop hgd hfo has (fun p hp => by rw [hn] at hp; cases hp) hfn (by rw [hd, hnt]; exact hlt)) ?_
  rw [hd]
  rw [updM_eq] at k
  exact k
end
end Go.Proofs.YtcjeeoimjkhijaaDoor.Ab
