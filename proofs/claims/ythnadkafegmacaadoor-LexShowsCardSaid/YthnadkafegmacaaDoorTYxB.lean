/- Contracts of the library as functions over data. No condition. -/
import Derived.Test.YthnadkafegmacaaDoorAbL
import Derived.Test.YthnadkafegmacaaDoorTUtf
import Derived.Test.YthnadkafegmacaaDoorTYxL
import Derived.Test.YthnadkafegmacaaDoorAb25
import Derived.Test.YthnadkafegmacaaDoorAbTab
namespace Go.Proofs.YthnadkafegmacaaDoor
open Go Go.RowKit Go.Shelf Go.Proofs.YthnadkafegmacaaDoor.Ab

/-- what lasts: the table of powers of ten, and that a variable of the library holds a number -/
def KT (w : World) : Prop := Lib.TabIs Tryd.prog w "internal/strconv.uint64pow10" .u64 Lib.pow10Tab ∧ ∃ m : Int, w.cell? ⟨10, 0, none⟩ = some (.int .i64 m)
theorem var_keep {P : Program} {w w' : World} {n : String} {cs : Array Value} (h : w.var? P n = some cs) (hb : Below w.heap.size w w') : w'.var? P n = some cs := by
  unfold World.var? at h ⊢
  cases hg : P.globalNamed n with
  | none => rw [hg] at h; cases h
  | some g =>
    rw [hg] at h
    simp only [Option.bind_some] at h ⊢
    have hl : g < w.heap.size := by
      apply Classical.byContradiction
      intro hn
      rw [Array.getElem?_eq_none (by omega)] at h
      cases h
    rw [hb.block g hl]
    exact h
theorem cell_keep' {w w' : World} {b o : Nat} {u : Value} (h : w.cell? ⟨b, o, none⟩ = some u) (hb : Below w.heap.size w w') : w'.cell? ⟨b, o, none⟩ = some u := by
  have hl := cell_lt h
  unfold World.cell? at h ⊢
  rw [hb.block b hl]
  exact h
theorem KT_st (w w' : World) (h : KT w) (hb : Below w.heap.size w w') : KT w' := by
  obtain ⟨h1, m, h2⟩ := h
  exact ⟨var_keep h1 hb, m, cell_keep' h2 hb⟩
theorem rep_v {p : Rho} {C : Nat → Nat → Value → Prop} {w : World} {x v : Value} (h : RepD p C w (.one (.e (.v x))) v) : v = x := by
  cases (show RepE C (.v x) v from h)
  rfl
theorem repAs1 {C : Nat → Nat → Value → Prop} {w : World} {d : D} {vs : Array Value} (h : RepAs C w [d] vs.toList) : ∃ a, vs = #[a] ∧ RepD p0 C w d a := by
  obtain ⟨l⟩ := vs
  match l, h with
  | [a], h => exact ⟨a, rfl, h.2 0 _ _ rfl rfl⟩
theorem repAs2 {C : Nat → Nat → Value → Prop} {w : World} {d e : D} {vs : Array Value} (h : RepAs C w [d, e] vs.toList) : ∃ a b, vs = #[a, b] ∧ RepD p0 C w d a ∧ RepD p0 C w e b := by
  obtain ⟨l⟩ := vs
  match l, h with
  | [a, b], h => exact ⟨a, b, rfl, h.2 0 _ _ rfl rfl, h.2 1 _ _ rfl rfl⟩
theorem repAs3 {C : Nat → Nat → Value → Prop} {w : World} {d e f : D} {vs : Array Value} (h : RepAs C w [d, e, f] vs.toList) : ∃ a b c, vs = #[a, b, c] ∧ RepD p0 C w d a ∧ RepD p0 C w e b ∧ RepD p0 C w f c := by
  obtain ⟨l⟩ := vs
  match l, h with
  | [a, b, c], h => exact ⟨a, b, c, rfl, h.2 0 _ _ rfl rfl, h.2 1 _ _ rfl rfl, h.2 2 _ _ rfl rfl⟩
theorem okF {f : Nat} {fn : Func} {c : Code} (h : Tryd.prog.funcs[f]? = some fn) (hb : fn.body = some c) (hn : (fn.name == "runtime.NumGoroutine") = false) : FnOk Tryd.prog f := ⟨fn, c, h, hb, hn⟩
theorem Itoa_fn (n : Nat) (h : n < 9223372036854775808) (gs : List (Nat × List E)) : FnK Tryd.prog KT 86 gs [.one (.e (.v (.int .i64 n)))] (.one (.e (eT (Lib.decDigits n)))) := by
  refine ⟨okF Tryd.func86 rfl (by kernel_rfl), fun w vs I hk _ ha => ?_⟩
  obtain ⟨a, rfl, h1⟩ := repAs1 ha
  clear ha
  cases rep_v h1
  refine (Any.strconv_Itoa shlaysM171 n (by omega) (by omega) w hk.1).mono ?_
  rintro e w' ⟨rfl, k, os, rfl⟩
  refine ⟨_, rfl, ?_, ?_⟩
  · refine ⟨rfl, rfl, rfl, ?_, fun k hk => ?_⟩
    · show w.heap.size ≤ (w.heap ++ os).size
      rw [Array.size_append]
      omega
    · show (w.heap ++ os)[k]? = w.heap[k]?
      exact Array.getElem?_append_left hk
  · rw [Lib.itoa_nonneg]
    exact .v _ rfl
theorem ReplaceAll_fn (s : Byt) (h : s.length ≤ 1000) (gs : List (Nat × List E)) : FnK Tryd.prog KT 87 gs [.one (.e (eT s)), .one (.e (eT [39])), .one (.e (eT [39, 39]))] (.one (.e (eT (Lib.replaceAll s [39] [39, 39])))) := by
  refine ⟨okF Tryd.func87 rfl (by kernel_rfl), fun w vs I hk _ ha => ?_⟩
  obtain ⟨a, b, c, rfl, h1, h2, h3⟩ := repAs3 ha
  cases rep_v h1
  cases rep_v h2
  cases rep_v h3
  obtain ⟨m, hm⟩ := hk.2
  have hz : (strB s).size = s.length := List.size_toArray
  have hc := Lib.countB_mul_le (strB [39]) (by decide) (strB s).size (strB s) (Nat.le_refl _)
  refine (Any.strings_ReplaceAll shlays155 shBuilder_Extra_155 (strB s) (strB [39]) (strB [39, 39]) m w (by omega) hm (by decide) ?_).mono ?_
  · have e1 : (strB [39]).size = 1 := rfl
    have e2 : (strB [39, 39]).size = 2 := rfl
    rw [e1] at hc
    rw [e2]
    omega
  rintro e w' ⟨rfl, hb⟩
  exact ⟨_, rfl, hb, .v _ rfl⟩
theorem Repeat_fn (n : Nat) (h : n ≤ 1000) : FnD Tryd.prog 89 [.one (.e (eT [48])), .one (.e (.v (.int .i64 n)))] (.one (.e (eT (Lib.repeatL [48] n)))) := by
  refine ⟨okF Tryd.func89 rfl (by kernel_rfl), fun w vs I ha => ?_⟩
  obtain ⟨a, b, rfl, h1, h2⟩ := repAs2 ha
  cases rep_v h1
  cases rep_v h2
  refine (Any.strings_Repeat shlays105 shBuilder_Extra_105 (strB [48]) n w (by omega) ?_).mono ?_
  · have e1 : (strB [48]).size = 1 := rfl
    rw [e1]
    omega
  rintro e w' ⟨rfl, hb⟩
  exact ⟨_, rfl, hb, .v _ rfl⟩
theorem Join_fn (l : List Byt) (h1 : l.length ≤ 1000) (h2 : (Lib.join l [32]).length ≤ 1000000) : FnD Tryd.prog 43 [.one (.e (.sl (l.map fun t => [eT t]))), .one (.e (eT [32]))] (.one (.e (eT (Lib.join l [32])))) := by
  refine ⟨okF Tryd.func43 rfl (by kernel_rfl), fun w vs I ha => ?_⟩
  obtain ⟨a, b, rfl, h3, h4⟩ := repAs2 ha
  clear ha
  cases rep_v h4
  cases (show RepE (CI w I) (.sl (l.map fun t => [eT t])) a from h3) with
  | sl A n cap z b o U xs hn hc hm hA hz hC hr =>
    cases l with
    | nil =>
      cases hn
      refine (Any.strings_Join_none shlays156 shBuilder_Extra_156 A cap (strB [32]) w).mono ?_
      rintro e w' ⟨rfl, rfl⟩
      exact ⟨_, rfl, Below.refl _ _, .v _ rfl⟩
    | cons t r =>
      have hz1 : z = 1 := (hz _ List.mem_cons_self).symm
      subst hz1
      have hln : (t :: r).length = n := by rw [← hn, List.length_map]
      rw [hA (by rw [← hln]; exact Nat.succ_pos _)]
      have hcell : ∀ (j : Nat) x, ((t :: r).map strB)[j]? = some x → w.cell? ⟨b, o + j, none⟩ = some (.string x) := by
        intro j x hx
        obtain ⟨q, hq, rfl⟩ := Option.map_eq_some_iff.1 ((List.getElem?_map ..).symm.trans hx)
        have hj : ((t :: r).map fun t => [eT t])[j]? = some [eT q] := by rw [List.getElem?_map, hq]; rfl
        have k1 := (hC j [eT q] 0 (eT q) hj rfl).1
        have k2 := hr j [eT q] 0 (eT q) hj rfl
        have k3 : U j 0 = .string (strB q) := by
          cases hu : U j 0 <;> rw [hu] at k2 <;> cases k2
          rfl
        rw [k3] at k1
        rw [show o + j = o + j * 1 + 0 by omega]
        exact k1
      have hbk : b < w.heap.size := cell_lt (hcell 0 (strB t) rfl)
      have hmm : ((t :: r).map strB).map (fun x => x.data.toList) = t :: r := by
        rw [List.map_map]
        exact List.map_id'' (fun _ => rfl) _
      have hl2 : ((t :: r).map strB).length = n := by rw [List.length_map]; exact hln
      have q := Any.strings_Join shlays156 shBuilder_Extra_156 b o cap ((t :: r).map strB) (strB [32]) w hcell hbk (by omega) (by omega) (by rw [hmm]; exact Nat.le_trans h2 (by decide))
      rw [hmm, hl2] at q
      refine q.mono ?_
      rintro e w' ⟨rfl, hb⟩
      exact ⟨_, rfl, hb, .v _ rfl⟩
end Go.Proofs.YthnadkafegmacaaDoor
