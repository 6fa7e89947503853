/- An own row told as data from here on. No condition. -/
import Derived.Test.YtjabmeffgbaglaaDoorAbH
namespace Go.Proofs.YtjabmeffgbaglaaDoor.Ab
open Go Go.RowKit
section
variable {P : Program} {X : Ctx}
theorem Le.trans {s s' s'' : St} (h : Le X s s') (k : Le X s' s'') : Le X s s'' := fun a w hR => k a w (h a w hR)
theorem le_frz {s : St} (t : Nat) {id ver z pub : Nat} {xs : List (List E)} (ht : s.tm t = .one (.own id ver)) (hm : s.mem id = some ⟨ver, .row z xs, pub⟩) :
  Le X s ⟨upd s.tm t (.one (.e (.sl xs))), upd s.mem id (some ⟨ver, .row z xs, (Body.row z xs).cells.length⟩)⟩ := by
 intro a w ⟨μ, hM, hsz, hdf, hr⟩
 have hf : frz s.mem (.own id ver) = some (.sl xs, [(id, ⟨ver, .row z xs, (Body.row z xs).cells.length⟩)]) := by
  simp only [frz, hm, Nat.beq_refl, cond_true]
 obtain ⟨r1, r2, r3, r4⟩ := RM.pubs [(id, ⟨ver, .row z xs, (Body.row z xs).cells.length⟩)] s.mem hM (frz_ok hf)
 refine ⟨μ, r1, hsz, hdf, fun t' => ?_⟩
 show RepD ⟨upd s.mem id _, μ⟩ _ w (upd s.tm t (.one (.e (.sl xs))) t') _
 by_cases h : t' = t
 ·subst h
  rw [upd_same]
  have h0 := (hr t').kept r2
  rw [ht] at h0
  exact frz_rep r1 h0 hf r3
 ·rw [upd_ne _ _ h]
  exact (hr t').kept r2
theorem Lex.app {ops : Array Oper} {l1 l2 : List Oper} {s s1 s2 : St} (h : Lex P X ops l1 s s1) (k : Lex P X ops l2 s1 s2) : Lex P X ops (l1 ++ l2) s s2 := by
 induction h with
 | nil s => exact k
 | cons h _ ih => exact .cons h (ih k)
theorem lexCut {ops : Array Oper} {l : List Oper} (n : Nat) {o : Oper} {r : List Oper} {s s1 s1' s2 : St} (h : Lex P X ops (l.take n) s s1) (hl : Le X s1 s1') (hd : l.drop n = o :: r) (k : Lex P X ops (o :: r) s1' s2) : Lex P X ops l s s2 := by
 rw [← List.take_append_drop n l, hd]
 refine h.app ?_
 cases k with
 | cons h k => exact .cons (fun Q a w hR => h Q a w (hl a w hR)) k
end
end Go.Proofs.YtjabmeffgbaglaaDoor.Ab
