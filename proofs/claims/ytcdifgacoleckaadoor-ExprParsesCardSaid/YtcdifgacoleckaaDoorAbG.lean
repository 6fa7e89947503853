/- Calls of closures under a guard; what is published already. No condition. -/
import Derived.Test.YtcdifgacoleckaaDoorAbI
namespace Go.Proofs.YtcdifgacoleckaaDoor.Ab
open Go Go.RowKit

section
variable {P : Program} {X : Ctx}
theorem opT_guard {ops : Array Oper} {s : St} {o : Oper} {q : Prop} {r : D} (hgd : gdOf ops s o = .iff q) (hd : dstOk X.nt o.dst = true) (h : q → OpT P X ops { o with guard := none } s (s.app o.dst r [])) : OpT P X ops o s (s.app o.dst (.gd q r) []) := by
  intro Q a w hR0
  have hR0' := hR0
  obtain ⟨μ, hM, hsz, hdf, hr⟩ := hR0
  have hiff := gd_iff hgd hr
  by_cases hq : q
  · rw [if_pos (hiff.2 hq)]
    have := h hq Q a w hR0'
    rw [if_pos (by simp [Region.wanted])] at this
    have hm : ∀ a' w', R X (s.app o.dst r []) a' w' → R X (s.app o.dst (.gd q r) []) a' w' := by
      rintro a' w' ⟨μ', hM', hsz', hdf', hr'⟩
      refine ⟨μ', hM', hsz', hdf', fun t => ?_⟩
      have := hr' t
      cases hdst : o.dst with
      | none => rw [hdst] at this; exact this
      | some t' =>
        rw [hdst] at this
        by_cases ht : t = t'
        · subst ht
          simp only [St.app, upd_same] at this ⊢
          exact ⟨fun _ => this, fun hn => absurd hq hn⟩
        · simp only [St.app, upd_ne _ _ ht] at this ⊢
          exact this
    exact Oper.wp_mono (P := P) (Q := Q) hm this
  · rw [if_neg (fun hw => hq (hiff.1 hw))]
    exact ⟨μ, hM, by cases o.dst <;> simp [Act.put, hsz], by cases o.dst <;> exact hdf, put_rep (d := .gd q r) (v := undef) hr Kept.rfl' ⟨fun h => absurd h hq, fun _ => rfl⟩ hsz hd []⟩
/-- updates that change nothing -/
def noUpd (m : Mem) : Upds → Prop
  | [] => True
  | [(i, b)] => m i = some b
  | (i, b) :: r => m i = some b ∧ noUpd m r
theorem noUpd_eq : ∀ {us : Upds} {m : Mem}, noUpd m us → appU m us = m
  | [], m, _ => rfl
  | [(i, b)], m, h => by
    show upd m i (some b) = m
    funext j
    by_cases hj : j = i
    · subst hj; rw [upd_same]; exact (show m j = some b from h).symm
    · rw [upd_ne _ _ hj]
  | (i, b) :: u :: r, m, h => by
    have e : upd m i (some b) = m := by
      funext j
      by_cases hj : j = i
      · subst hj; rw [upd_same]; exact h.1.symm
      · rw [upd_ne _ _ hj]
    show appU (upd m i (some b)) (u :: r) = m
    rw [e]
    exact noUpd_eq h.2
/-- a call of a closure under a guard: the variables that it captured are told to all already -/
theorem callCG {nt : Nat} {ops : Array Oper} {o : Oper} {rest : List Oper} {tm : Nat → D} {m : Mem} {fo : Operand} {f t : Nat} {caps : List (Nat × Nat × Nat)} {args : Array Operand} {ts : Array TypeId} {q : Prop} {as : List D} {us : Upds} {r : D} {s'' : St} (hop : o.op = .call ⟨.value fo, args, ts⟩) (hgd : gdOf ops ⟨tm, m⟩ o = .iff q) (hfo : ((⟨tm, m⟩ : St).ev fo).strip = .one (.clo f caps))
    (has : dataL m ((args.toList.map fun x => ((⟨tm, m⟩ : St).ev x).strip) ++ capD caps) = some (as, us)) (hus : noUpd m us) (hd : o.dst = some t) (hlt : Nat.blt t nt = true) (hnt : X.nt = nt) {ns : List Prop} (hns : needL ⟨tm, m⟩ (fo :: args.toList) = ns) (hn : q → AllP ns) (hfn : q → FnD P f as r) (k : Lex P X ops rest ⟨upd tm t (.gd q r), m⟩ s'') : Lex P X ops (o :: rest) ⟨tm, m⟩ s'' := by
  have h := opT_guard (P := P) (X := X) (r := r) hgd (by rw [hd, hnt]; exact hlt) fun hq => by
    have h := opT_callC (P := P) (X := X) (ops := ops) (s := ⟨tm, m⟩) (o := { o with guard := none }) (us := us) hop (by unfold gdOf; rfl) hfo has (fun p hp => by rw [hns] at hp; exact allP_mem (hn hq) p hp) (hfn hq) (by show dstOk X.nt o.dst = true; rw [hd, hnt]; exact hlt)
    have e : (⟨tm, m⟩ : St).app o.dst r us = (⟨tm, m⟩ : St).app o.dst r [] := by
      show (⟨_, appU m us⟩ : St) = ⟨_, m⟩
      rw [noUpd_eq hus]
    rw [← e]
    exact h
  refine .cons h ?_
  rw [hd]
  exact k
end
end Go.Proofs.YtcdifgacoleckaaDoor.Ab
