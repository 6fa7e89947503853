/- What a codec reads is data of the abstract states. No condition. -/
import Derived.Test.YtcdifgacoleckaaDoorBase
import Derived.Test.YtcdifgacoleckaaDoorAbF
namespace Go.Proofs.YtcdifgacoleckaaDoor
open Go.ChangeShapes Go.WideShapes Go.ChangeAt Go.RowKit Go.Deep Go.Proofs.YtcdifgacoleckaaDoor.Ab

abbrev anyI : Nat → Nat → Prop := fun _ _ => True
/-- the codec c reads what e writes as data -/
structure Enc {α : Type} (c : Cd α) (e : α → List E) : Prop where
  len : ∀ {w : World} {S : Nat → Prop} {cs : List Value} {x : α}, c.rel w S cs x → (e x).length = c.size
  rep : ∀ {w : World} {S : Nat → Prop} {cs : List Value} {x : α}, c.rel w S cs x → ∀ (i : Nat) y u, (e x)[i]? = some y → cs[i]? = some u → RepE (CI w anyI) y u

theorem single {α : Type} {a : α} {i : Nat} {b : α} (h : [a][i]? = some b) : i = 0 ∧ b = a := by
  cases i with
  | zero => exact ⟨rfl, by simpa using h.symm⟩
  | succ i => simp at h

theorem enc_int (k : IntKind) : Enc (cInt k) (fun x => [E.v (.int k x)]) where
  len _ := rfl
  rep h i y u hy hu := by
    obtain ⟨rfl, _⟩ := h
    obtain ⟨rfl, rfl⟩ := single hy
    obtain ⟨_, rfl⟩ := single hu
    exact .v _ rfl
theorem enc_byte : Enc cByte (fun x => [eB x]) where
  len _ := rfl
  rep h i y u hy hu := by
    obtain rfl := h
    obtain ⟨rfl, rfl⟩ := single hy
    obtain ⟨_, rfl⟩ := single hu
    exact .v _ rfl
theorem enc_bool : Enc cBool (fun x => [E.v (.bool x)]) where
  len _ := rfl
  rep h i y u hy hu := by
    obtain rfl := h
    obtain ⟨rfl, rfl⟩ := single hy
    obtain ⟨_, rfl⟩ := single hu
    exact .v _ rfl
theorem enc_str : Enc cStr (fun x => [E.v (.string x)]) where
  len _ := rfl
  rep h i y u hy hu := by
    obtain ⟨rfl, _⟩ := h
    obtain ⟨rfl, rfl⟩ := single hy
    obtain ⟨_, rfl⟩ := single hu
    exact .v _ rfl

theorem enc_sl {α : Type} {c : Cd α} {e : α → List E} (he : Enc c e) {w : World} {S : Nat → Prop} {A : Option Addr} {n cap : Nat} {xs : List α} (h1 : n ≤ cap) (h2 : cap ≤ maxLen) (h : SlR c w S A n xs) : RepE (CI w anyI) (.sl (xs.map e)) (.slice A n cap) := by
  obtain ⟨hl, hx⟩ := h
  cases n with
  | zero =>
    have : xs = [] := List.eq_nil_of_length_eq_zero hl
    subst this
    exact .sl A 0 cap 0 0 0 (fun _ _ => undef) [] rfl h1 h2 (fun h => absurd h (by omega)) (fun cs h => by cases h) (fun i cs j y h => by simp at h) (fun i cs j y h => by simp at h)
  | succ n =>
    obtain ⟨b, o, hA, _, hx⟩ := hx (Nat.succ_pos n)
    have key : ∀ i cs j y, (xs.map e)[i]? = some cs → cs[j]? = some y → CI w anyI b (o + i * c.size + j) ((w.cell? ⟨b, o + i * c.size + j, none⟩).getD undef) ∧ RepE (CI w anyI) y ((w.cell? ⟨b, o + i * c.size + j, none⟩).getD undef) := by
      intro i cs j y hi hj
      simp only [List.getElem?_map, Option.map_eq_some_iff] at hi
      obtain ⟨x, hi, rfl⟩ := hi
      obtain ⟨us, hat, hrel⟩ := hx i x hi
      have hjl : j < us.length := by
        have := (List.getElem?_eq_some_iff.1 hj).1
        rw [he.len hrel] at this
        rw [c.len hrel]
        exact this
      have hu := hat j us[j] (List.getElem?_eq_getElem hjl)
      rw [hu]
      exact ⟨⟨hu, trivial⟩, he.rep hrel j y us[j] hj (List.getElem?_eq_getElem hjl)⟩
    refine .sl A (n + 1) cap c.size b o (fun i j => (w.cell? ⟨b, o + i * c.size + j, none⟩).getD undef) (xs.map e) (by simpa using hl) h1 h2 (fun _ => hA) ?_ (fun i cs j y hi hj => (key i cs j y hi hj).1) (fun i cs j y hi hj => (key i cs j y hi hj).2)
    intro cs hcs
    obtain ⟨x, hm, rfl⟩ := List.mem_map.1 hcs
    obtain ⟨i, hi⟩ := List.getElem?_of_mem hm
    obtain ⟨us, _, hrel⟩ := hx i x hi
    exact he.len hrel
theorem enc_slice {α : Type} {c : Cd α} {e : α → List E} (he : Enc c e) : Enc (cSlice c) (fun xs => [E.sl (xs.map e)]) where
  len _ := rfl
  rep h i y u hy hu := by
    obtain ⟨A, n, cap, rfl, h1, h2, h3⟩ := h
    obtain ⟨rfl, rfl⟩ := single hy
    obtain ⟨_, rfl⟩ := single hu
    exact enc_sl he h1 h2 h3

theorem flat_len {α : Type} {z : Nat} : ∀ {l : List (List α)}, (∀ x ∈ l, x.length = z) → l.flatten.length = l.length * z
  | [], _ => by simp
  | x :: r, h => by
    rw [List.flatten_cons, List.length_append, flat_len (fun y hy => h y (by simp [hy])), h x (by simp), List.length_cons]
    rw [Nat.add_mul, Nat.one_mul, Nat.add_comm]
theorem flat_get {α : Type} {z : Nat} : ∀ {l : List (List α)} {i : Nat} {y : α}, (∀ x ∈ l, x.length = z) → l.flatten[i]? = some y → ∃ x, l[i / z]? = some x ∧ x[i % z]? = some y
  | [], i, y, _, hy => by simp at hy
  | x :: r, i, y, h, hy => by
    have hx : x.length = z := h x (by simp)
    rw [List.flatten_cons] at hy
    by_cases hi : i < z
    · rw [List.getElem?_append_left (by omega)] at hy
      exact ⟨x, by rw [Nat.div_eq_of_lt hi]; rfl, by rw [Nat.mod_eq_of_lt hi]; exact hy⟩
    · rw [List.getElem?_append_right (by omega), hx] at hy
      obtain ⟨x', h1, h2⟩ := flat_get (fun y hy => h y (by simp [hy])) hy
      have hz : 0 < z := by
        rcases Nat.eq_zero_or_pos z with h0 | h0
        · subst h0
          have := (List.getElem?_eq_some_iff.1 hy).1
          rw [flat_len (fun y hy => h y (by simp [hy]))] at this
          omega
        · exact h0
      have e1 : i / z = (i - z) / z + 1 := by rw [Nat.div_eq_sub_div hz (by omega)]
      have e2 : i % z = (i - z) % z := Nat.mod_eq_sub_mod (by omega)
      exact ⟨x', by rw [e1]; simpa using h1, by rw [e2]; exact h2⟩

theorem enc_arr {α : Type} (n : Nat) {c : Cd α} {e : α → List E} (he : Enc c e) : Enc (cArr n c) (fun xs => (xs.map e).flatten) where
  len {w S cs xs} h := by
    obtain ⟨_, h2, h3⟩ := h
    rw [flat_len (z := c.size), List.length_map, h2]
    · rfl
    intro y hy
    obtain ⟨x, hm, rfl⟩ := List.mem_map.1 hy
    obtain ⟨i, hi⟩ := List.getElem?_of_mem hm
    exact he.len (h3 i x hi)
  rep {w S cs xs} h i y u hy hu := by
    obtain ⟨h1, h2, h3⟩ := h
    have hall : ∀ y ∈ xs.map e, y.length = c.size := fun y hy => by
      obtain ⟨x, hm, rfl⟩ := List.mem_map.1 hy
      obtain ⟨i, hi⟩ := List.getElem?_of_mem hm
      exact he.len (h3 i x hi)
    obtain ⟨l, hl, hy'⟩ := flat_get hall hy
    simp only [List.getElem?_map, Option.map_eq_some_iff] at hl
    obtain ⟨x, hx, rfl⟩ := hl
    refine he.rep (h3 _ x hx) (i % c.size) y u hy' ?_
    have hm : i % c.size < c.size := by
      have := (List.getElem?_eq_some_iff.1 hy').1
      rw [he.len (h3 _ x hx)] at this
      exact this
    rw [List.getElem?_take_of_lt hm, List.getElem?_drop, Nat.mul_comm, Nat.div_add_mod]
    exact hu

theorem enc_end : Enc cEnd (fun _ => []) where
  len _ := rfl
  rep h i y u hy hu := by simp at hy
theorem enc_cons {α β : Type} {c : Cd α} {d : Cd β} {e : α → List E} {f : β → List E} (he : Enc c e) (hf : Enc d f) : Enc (cCons c d) (fun x => e x.1 ++ f x.2) where
  len h := by
    obtain ⟨l, r, rfl, h1, h2⟩ := h
    rw [List.length_append, he.len h1, hf.len h2]
    rfl
  rep h i y u hy hu := by
    obtain ⟨l, r, rfl, h1, h2⟩ := h
    by_cases hi : i < c.size
    · rw [List.getElem?_append_left (by rw [he.len h1]; exact hi)] at hy
      rw [List.getElem?_append_left (by rw [c.len h1]; exact hi)] at hu
      exact he.rep h1 i y u hy hu
    · rw [List.getElem?_append_right (by rw [he.len h1]; omega), he.len h1] at hy
      rw [List.getElem?_append_right (by rw [c.len h1]; omega), c.len h1] at hu
      exact hf.rep h2 _ y u hy hu
theorem enc_struct {α : Type} {c : Cd α} {e : α → List E} (he : Enc c e) : Enc (cStruct c) e where
  len h := he.len (c := c) h
  rep h := he.rep (c := c) h

/-- an argument -/
theorem arg_one {α : Type} {c : Cd α} {e : α → E} (he : Enc c (fun x => [e x])) {w : World} {v : Value} {x : α} (h : c.rel w (lt w.heap.size) [v] x) : RepD p0 (CI w anyI) w (.one (.e (e x))) v :=
  he.rep h 0 _ _ rfl rfl
theorem arg_agg {α : Type} {c : Cd α} {e : α → List E} (he : Enc c e) {w : World} {vs : Array Value} {x : α} (h : c.rel w (lt w.heap.size) vs.toList x) : RepD p0 (CI w anyI) w (.agg (.es (e x))) (.agg vs) :=
  ⟨vs.toList, by simp, by
    have h1 := he.len h
    have h2 := c.len h
    refine ⟨by simp [Cs.d0, h1, h2], fun i y u hy hu => ?_⟩
    simp only [Cs.d0, List.getElem?_map, Option.map_eq_some_iff] at hy
    obtain ⟨z, hz, rfl⟩ := hy
    exact he.rep h i z u hz hu⟩

/-- a law that answers true -/
theorem law_true {P : Program} {f : Nat} {ds : List D} {vs : Array Value} (h : FnD P f ds (.v (.bool true))) {W : World} (ha : RepAs (CI W anyI) W ds vs.toList) : Calls P f vs W fun e W' => e = .returned (.bool true) ∧ Below W.heap.size W W' := by
  refine (h.2 W vs anyI ha).mono ?_
  rintro e w' ⟨v, rfl, hb, hv⟩
  refine ⟨?_, hb⟩
  have hv : RepE _ (.v (.bool true)) v := hv
  cases hv
  rfl
theorem Enc.of {α : Type} {c : Cd α} {e e' : α → List E} (h : Enc c e) (hh : ∀ {w : World} {S : Nat → Prop} {cs : List Value} {x : α}, c.rel w S cs x → e x = e' x) : Enc c e' where
  len hr := by rw [← hh hr]; exact h.len hr
  rep hr i y u hy hu := by rw [← hh hr] at hy; exact h.rep hr i y u hy hu
theorem slice_all {α : Type} {c : Cd α} {Q : α → Prop} (hQ : ∀ {w : World} {S : Nat → Prop} {cs : List Value} {x : α}, c.rel w S cs x → Q x) {w : World} {S : Nat → Prop} {cs : List Value} {xs : List α} (h : (cSlice c).rel w S cs xs) : ∀ x ∈ xs, Q x := by
  obtain ⟨A, n, cap, rfl, h1, h2, hl, hx⟩ := h
  intro x hm
  obtain ⟨i, hi⟩ := List.getElem?_of_mem hm
  have hlt := (List.getElem?_eq_some_iff.1 hi).1
  obtain ⟨b, o, _, _, h3⟩ := hx (by omega)
  obtain ⟨us, _, h4⟩ := h3 i x hi
  exact hQ h4
theorem slice_len {α : Type} {c : Cd α} {w : World} {S : Nat → Prop} {cs : List Value} {xs : List α} (h : (cSlice c).rel w S cs xs) : xs.length ≤ maxLen := by
  obtain ⟨A, n, cap, rfl, h1, h2, hl, hx⟩ := h
  omega
theorem arr_all {α : Type} {n : Nat} {c : Cd α} {Q : α → Prop} (hQ : ∀ {w : World} {S : Nat → Prop} {cs : List Value} {x : α}, c.rel w S cs x → Q x) {w : World} {S : Nat → Prop} {cs : List Value} {xs : List α} (h : (cArr n c).rel w S cs xs) : xs.length = n ∧ ∀ x ∈ xs, Q x := by
  obtain ⟨h1, h2, h3⟩ := h
  refine ⟨h2, fun x hm => ?_⟩
  obtain ⟨i, hi⟩ := List.getElem?_of_mem hm
  exact hQ (h3 i x hi)
theorem wf_i64 {x : Int} (h : (Lit.int .i64 x).wf = true) : -9223372036854775808 ≤ x ∧ x ≤ 9223372036854775807 := by
  simp [Lit.wf, IntKind.min, IntKind.max, IntKind.bits, IntKind.signed] at h
  omega
theorem wf_u64 {x : Int} (h : (Lit.int .u64 x).wf = true) : 0 ≤ x ∧ x < 18446744073709551616 := by
  simp [Lit.wf, IntKind.min, IntKind.max, IntKind.bits, IntKind.signed] at h
  omega
/-- a law that answers true, some variables of the package given -/
theorem law_trueG' {P : Program} {f : Nat} {gs : List (Nat × List E)} {ds : List D} {vs : Array Value} (h : FnG P f gs ds (.v (.bool true))) {V : World} (hg : ∀ x ∈ gs, RepD p0 (CI V anyI) V (.one (.eptr x.2)) (.pointer (some ⟨x.1, 0, none⟩))) (ha : RepAs (CI V anyI) V ds vs.toList) : Calls P f vs V fun e W' => e = .returned (.bool true) ∧ Below V.heap.size V W' := by
  refine (h.2 V vs anyI hg ha).mono ?_
  rintro e w' ⟨v, rfl, hb, hv⟩
  refine ⟨?_, hb⟩
  have hv : RepE _ (.v (.bool true)) v := hv
  cases hv
  rfl
end Go.Proofs.YtcdifgacoleckaaDoor
