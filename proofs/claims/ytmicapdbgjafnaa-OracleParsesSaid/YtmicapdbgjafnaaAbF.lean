/- A call that stands under a guard; its arguments are data. No condition. -/
import Derived.Test.YtmicapdbgjafnaaAbE
namespace Go.Proofs.Ytmicapdbgjafnaa.Ab
open Go Go.RowKit

theorem opT_callG {P : Program} {X : Ctx} {ops : Array Oper} {s : St} {o : Oper} {fo : Operand} {f : Nat} {args : Array Operand} {ts : Array TypeId} {q : Prop} (hop : o.op = .call ⟨.value fo, args, ts⟩) (hgd : gdOf ops s o = .iff q) (hfo : s.ev fo = .one (.clo f [])) {as : List D} {r : D}
    (has : dataL s.mem (args.toList.map fun x => (s.ev x).strip) = some (as, [])) (hn : q → ∀ p ∈ needL s args.toList, p) (hfn : q → FnD P f as r) (hd : dstOk X.nt o.dst = true) : OpT P X ops o s (s.app o.dst (.gd q r) []) := by
  intro Q a w hR0
  have hR0' := hR0
  obtain ⟨μ, hM, hsz, hdf, hr⟩ := hR0
  have hiff := gd_iff hgd hr
  by_cases hq : q
  · rw [if_pos (hiff.2 hq)]
    have := opT_call (ops := ops) (o := { o with guard := none }) (us := []) hop (by unfold gdOf; rfl) hfo has (hn hq) (hfn hq) hd Q a w hR0'
    rw [if_pos (by simp [Region.wanted])] at this
    have hm : ∀ a' w', R X (s.app o.dst r []) a' w' → R X (s.app o.dst (.gd q r) []) a' w' := by
      rintro a' w' ⟨μ', hM', hsz', hdf', hr'⟩
      refine ⟨μ', hM', hsz', hdf', fun t => ?_⟩
      have := hr' t
      cases hdst : o.dst with
      | none => rw [hdst] at this; exact this
      | some t' =>
        rw [hdst] at this
        by_cases ht : t = t'
        · subst ht
          simp only [St.app, upd_same] at this ⊢
          exact ⟨fun _ => this, fun hn => absurd hq hn⟩
        · simp only [St.app, upd_ne _ _ ht] at this ⊢
          exact this
    exact Oper.wp_mono (P := P) (Q := Q) hm this
  · rw [if_neg (fun hw => hq (hiff.1 hw))]
    exact ⟨μ, hM, by cases o.dst <;> simp [Act.put, hsz], by cases o.dst <;> exact hdf, put_rep (d := .gd q r) (v := undef) hr Kept.rfl' ⟨fun h => absurd h hq, fun _ => rfl⟩ hsz hd []⟩

theorem allP_mem : ∀ {l : List Prop}, AllP l → ∀ p ∈ l, p
  | q :: r, h, p, hp => by
    rcases List.mem_cons.1 hp with rfl | hp
    · exact (AllP_cons.1 h).1
    · exact allP_mem (AllP_cons.1 h).2 p hp
theorem callG {P : Program} {X : Ctx} {nt : Nat} {ops : Array Oper} {o : Oper} {rest : List Oper} {tm : Nat → D} {m : Mem} {fo : Operand} {f t : Nat} {args : Array Operand} {ts : Array TypeId} {q : Prop} {as : List D} {r : D} {s'' : St} (hop : o.op = .call ⟨.value fo, args, ts⟩) (hgd : gdOf ops ⟨tm, m⟩ o = .iff q) (hfo : (⟨tm, m⟩ : St).ev fo = .one (.clo f []))
    (has : dataL m (args.toList.map fun x => ((⟨tm, m⟩ : St).ev x).strip) = some (as, [])) (hd : o.dst = some t) (hlt : Nat.blt t nt = true) (hnt : X.nt = nt) {ns : List Prop} (hns : needL ⟨tm, m⟩ args.toList = ns) (hn : q → AllP ns) (hfn : q → FnD P f as r) (k : Lex P X ops rest ⟨upd tm t (.gd q r), m⟩ s'') : Lex P X ops (o :: rest) ⟨tm, m⟩ s'' := by
  refine .cons (opT_callG hop hgd hfo has (fun hq => by rw [hns]; exact allP_mem (hn hq)) hfn (by rw [hd, hnt]; exact hlt)) ?_
  rw [hd]
  exact k
end Go.Proofs.Ytmicapdbgjafnaa.Ab
