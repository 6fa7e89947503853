/- A value is equal to itself: at structs and arrays of integers, bools and texts, whatever their size. No condition. -/
import Derived.Test.YtbpibblidokhfaaRowW
namespace Go.Proofs.Ytbpibblidokhfaa
open Go.ChangeShapes Go.WideShapes Go.ChangeAt Go.RowKit Go.Deep

/-- a value of so many cells -/
def vOf (agg : Bool) (cs : List Value) : Value := if agg then .agg cs.toArray else cs.headD undef

/-- equal to itself, at the type t, whatever the codec c reads, at every depth from n on -/
structure SelfC {α : Type} (P : Program) (n : Nat) (t : TypeId) (c : Cd α) (agg : Bool) : Prop where
  size : (P.info? t).map (·.size) = some c.size
  isAgg : ∀ w, (isAgg t).run P w = .ok agg w
  scalar : agg = false → c.size = 1
  eq : ∀ (w0 : World) (S : Nat → Prop) (cs : List Value) (x : α), c.rel w0 S cs x → ∀ d, n ≤ d → ∀ w, (Op.equalIn d t (vOf agg cs) (vOf agg cs)).run P w = .ok true w

section
variable {P : Program}
theorem isAgg_of {t : TypeId} {u : TypeDesc} (h : P.underlying t = some u) : ∀ w, (isAgg t).run P w = .ok (match u with | .struct _ | .array _ _ => true | _ => false) w := fun w => by
  unfold isAgg
  rw [Sem.run_bind, run_underlying h w]
  cases u <;> rfl

theorem self_int {t : TypeId} {k : IntKind} (h : P.underlying t = some (.int k)) (hs : (P.info? t).map (·.size) = some 1) : SelfC P 1 t (cInt k) false :=
  ⟨hs, isAgg_of h, fun _ => rfl, fun _ _ cs x hr d hd w => by
    obtain ⟨d, rfl⟩ : ∃ e, d = e + 1 := ⟨d - 1, by omega⟩
    obtain ⟨rfl, _⟩ := hr
    simp [vOf, run_equalIn_int w d t k k x x h]⟩
theorem self_byte {t : TypeId} (h : P.underlying t = some (.int .u8)) (hs : (P.info? t).map (·.size) = some 1) : SelfC P 1 t cByte false :=
  ⟨hs, isAgg_of h, fun _ => rfl, fun _ _ cs x hr d hd w => by
    obtain ⟨d, rfl⟩ : ∃ e, d = e + 1 := ⟨d - 1, by omega⟩
    have hr : cs = _ := hr
    subst hr
    simp [vOf, run_equalIn_int w d t .u8 .u8 (x.toNat : Int) (x.toNat : Int) h]⟩
theorem self_bool {t : TypeId} (h : P.underlying t = some .bool) (hs : (P.info? t).map (·.size) = some 1) : SelfC P 1 t cBool false :=
  ⟨hs, isAgg_of h, fun _ => rfl, fun _ _ cs x hr d hd w => by
    obtain ⟨d, rfl⟩ : ∃ e, d = e + 1 := ⟨d - 1, by omega⟩
    have hr : cs = _ := hr
    subst hr
    simp [vOf, run_equalIn_bool w d t x x h]⟩
theorem self_str {t : TypeId} (h : P.underlying t = some .string) (hs : (P.info? t).map (·.size) = some 1) : SelfC P 1 t cStr false :=
  ⟨hs, isAgg_of h, fun _ => rfl, fun _ _ cs x hr d hd w => by
    obtain ⟨d, rfl⟩ : ∃ e, d = e + 1 := ⟨d - 1, by omega⟩
    obtain ⟨rfl, _⟩ := hr
    simp [vOf, run_equalIn_string w d t x x h]⟩

/-- a part of the cells, as a value -/
theorem run_part {α : Type} {m : Nat} {t : TypeId} {c : Cd α} {agg : Bool} (h : SelfC P m t c agg) (cs : List Value) (off : Nat) (hl : off + c.size ≤ cs.length) (w : World) :
    (part t cs.toArray off).run P w = .ok (vOf agg ((cs.drop off).take c.size)) w := by
  unfold part
  rw [Sem.run_bind, h.isAgg w]
  cases hi : P.info? t with
  | none => have := h.size; rw [hi] at this; cases this
  | some i =>
    have hsz : i.size = c.size := by have := h.size; rw [hi] at this; simpa using this
    cases agg with
    | true =>
      simp [sizeOf, typeInfo, hi, hsz, vOf, Result.andThen]
    | false =>
      have h1 := h.scalar rfl
      rw [h1]
      have : off < cs.length := by omega
      have e : (cs.drop off).take 1 = [cs[off]] := by rw [List.drop_eq_getElem_cons this]; rfl
      simp [vOf, Result.andThen, this, e]

theorem forIn_yield {β : Type} (l : List Nat) (b : β) (f : Nat → β → Sem (ForInStep β)) (h : ∀ i ∈ l, ∀ w, (f i b).run P w = .ok (.yield b) w) : ∀ w, (forIn l b f).run P w = .ok b w := by
  induction l with
  | nil => intro w; simp
  | cons i l ih =>
    intro w
    rw [List.forIn_cons, Sem.run_bind, h i (List.mem_cons_self ..) w]
    exact ih (fun j hj => h j (List.mem_cons_of_mem _ hj)) w

theorem self_arr {α : Type} {m n : Nat} {t e : TypeId} {c : Cd α} {agg : Bool} (ht : P.underlying t = some (.array n e)) (hs : (P.info? t).map (·.size) = some (n * c.size)) (he : SelfC P m e c agg) : SelfC P (m + 1) t (cArr n c) true :=
  ⟨hs, isAgg_of ht, (fun h => by cases h), fun _ _ cs x hr d hd w => by
    obtain ⟨d, rfl⟩ : ∃ e, d = e + 1 := ⟨d - 1, by omega⟩
    obtain ⟨hl, hxl, hx⟩ := hr
    have hsz : ∀ w, (sizeOf e).run P w = .ok c.size w := fun w => by
      cases hi : P.info? e with
      | none => have := he.size; rw [hi] at this; cases this
      | some i =>
        have hsz : i.size = c.size := by have := he.size; rw [hi] at this; simpa using this
        simp [sizeOf, typeInfo, hi, hsz]
    have step : ∀ i, i < n → ∀ w, (Op.equalIn d e (vOf agg ((cs.drop (i * c.size)).take c.size)) (vOf agg ((cs.drop (i * c.size)).take c.size))).run P w = .ok true w := fun i hi w =>
      he.eq _ _ _ _ (hx i (x[i]'(by omega)) (List.getElem?_eq_getElem _)) d (by omega) w
    have pt : ∀ i, i < n → ∀ w, (part e cs.toArray (i * c.size)).run P w = .ok (vOf agg ((cs.drop (i * c.size)).take c.size)) w := fun i hi w =>
      run_part he cs (i * c.size) (by rw [hl, ← Nat.succ_mul]; exact Nat.mul_le_mul_right _ hi) w
    simp only [vOf, if_true, Op.equalIn, Sem.run_bind, run_underlying ht, Result.andThen_ok, hsz, Std.Legacy.Range.forIn_eq_forIn_range', Std.Legacy.Range.size, Nat.sub_zero, Nat.add_sub_cancel, Nat.div_one]
    rw [forIn_yield _ _ _ (fun i hi w => by
      have hin : i < n := by simpa using hi
      simp [pt i hin, step i hin, Result.andThen])]
    rfl⟩

theorem eqFields_self {d : Nat} {xs : Array Value} (fs : List Field) (h : ∀ f ∈ fs, ∃ v, (∀ w, (part f.type xs f.offset).run P w = .ok v w) ∧ ∀ w, (Op.equalIn d f.type v v).run P w = .ok true w) : ∀ w, (Op.eqFields d xs xs fs).run P w = .ok true w := by
  induction fs with
  | nil => intro w; simp [Op.eqFields]
  | cons f fs ih =>
    intro w
    obtain ⟨v, h1, h2⟩ := h f (List.mem_cons_self ..)
    have h3 := ih fun g hg => h g (List.mem_cons_of_mem _ hg)
    simp only [Op.eqFields]
    split <;> simp [h1, h2, h3, Result.andThen]

def SelfFs {α : Type} (P : Program) (m off : Nat) (fs : List Field) (c : Cd α) : Prop :=
  ∀ (w0 : World) (S : Nat → Prop) (cs : List Value) (x : α), c.rel w0 S (cs.drop off) x → off ≤ cs.length → ∀ d, m ≤ d → ∀ f ∈ fs, ∃ v, (∀ w, (part f.type cs.toArray f.offset).run P w = .ok v w) ∧ ∀ w, (Op.equalIn d f.type v v).run P w = .ok true w
theorem selfFs_nil {m off : Nat} : SelfFs P m off [] cEnd := fun _ _ _ _ _ _ _ _ f hf => by cases hf
theorem selfFs_cons {α β : Type} {m k off : Nat} {f : Field} {fs : List Field} {c : Cd α} {c' : Cd β} {agg : Bool} (hoff : f.offset = off) (hf : SelfC P k f.type c agg) (hk : k ≤ m) (hr : SelfFs P m (off + c.size) fs c') : SelfFs P m off (f :: fs) (cCons c c') :=
  fun w0 S cs x h hlen d hd g hg => by
    obtain ⟨l, r, hlr, h1, h2⟩ := h
    have hl := c.len h1
    have htake : (cs.drop off).take c.size = l := by rw [hlr, ← hl, List.take_left]
    have hdrop : cs.drop (off + c.size) = r := by rw [← List.drop_drop, hlr, ← hl, List.drop_left]
    have hle : off + c.size ≤ cs.length := by
      have h3 := congrArg List.length hlr
      rw [List.length_drop, List.length_append] at h3
      omega
    rcases List.mem_cons.1 hg with rfl | hg
    · refine ⟨vOf agg l, fun w => ?_, hf.eq _ _ _ _ h1 d (by omega)⟩
      rw [hoff, run_part hf cs off hle w, htake]
    · exact hr w0 S cs x.2 (by rw [hdrop]; exact h2) hle d hd g hg
theorem self_struct {α : Type} {m : Nat} {t : TypeId} {c : Cd α} (ht : P.underlying t = some (.struct (P.fieldsOf t))) (hp : P.stoodInHeld t = false) (hs : (P.info? t).map (·.size) = some c.size) (hf : SelfFs P m 0 (P.fieldsOf t).toList c) : SelfC P (m + 1) t (cStruct c) true :=
  ⟨hs, isAgg_of ht, (fun h => by cases h), fun w0 S cs x hr d hd w => by
    obtain ⟨d, rfl⟩ : ∃ e, d = e + 1 := ⟨d - 1, by omega⟩
    simp only [vOf, if_true]
    rw [run_equalIn_struct w d t _ _ ht hp]
    exact eqFields_self _ (hf w0 S cs x hr (Nat.zero_le _) d (by omega)) w⟩

/-- the operations '==' and '!=' -/
theorem SelfC.eql {α : Type} {m : Nat} {t : TypeId} {c : Cd α} (h : SelfC P m t c true) (hm : m ≤ 10000) {w0 : World} {S : Nat → Prop} {cs : List Value} {x : α} (hr : c.rel w0 S cs x) (w : World) : (binOp .eql t (.agg cs.toArray) (.agg cs.toArray)).run P w = .ok (.bool true) w := by
  have := h.eq _ _ _ _ hr 10000 hm w
  simp only [vOf, if_true] at this
  rw [run_eql_struct, this]
  rfl
theorem SelfC.neq {α : Type} {m : Nat} {t : TypeId} {c : Cd α} (h : SelfC P m t c true) (hm : m ≤ 10000) {w0 : World} {S : Nat → Prop} {cs : List Value} {x : α} (hr : c.rel w0 S cs x) (w : World) : (binOp .neq t (.agg cs.toArray) (.agg cs.toArray)).run P w = .ok (.bool false) w := by
  have := h.eq _ _ _ _ hr 10000 hm w
  simp only [vOf, if_true] at this
  rw [run_neq_struct, this]
  rfl
end

/-- what is read settles the cells (no slice in it) -/
def Det {α : Type} (c : Cd α) : Prop := ∀ (w : World) (S : Nat → Prop) (cs : List Value) (x : α) (w' : World) (S' : Nat → Prop) (cs' : List Value), c.rel w S cs x → c.rel w' S' cs' x → cs = cs'
theorem det_int (k : IntKind) : Det (cInt k) := fun _ _ cs x _ _ cs' h h' => h.1.trans h'.1.symm
theorem det_byte : Det cByte := fun _ _ cs x _ _ cs' h h' => Eq.trans h (Eq.symm h')
theorem det_bool : Det cBool := fun _ _ cs x _ _ cs' h h' => Eq.trans h (Eq.symm h')
theorem det_str : Det cStr := fun _ _ cs x _ _ cs' h h' => h.1.trans h'.1.symm
theorem det_end : Det cEnd := fun _ _ cs x _ _ cs' h h' => Eq.trans h (Eq.symm h')
theorem det_cons {α β : Type} {c : Cd α} {d : Cd β} (hc : Det c) (hd : Det d) : Det (cCons c d) := fun w S cs x w' S' cs' h h' => by
  obtain ⟨l, r, rfl, h1, h2⟩ := h
  obtain ⟨l', r', rfl, h1', h2'⟩ := h'
  rw [hc _ _ _ _ _ _ _ h1 h1', hd _ _ _ _ _ _ _ h2 h2']
theorem det_struct {α : Type} {c : Cd α} (hc : Det c) : Det (cStruct c) := hc
theorem det_arr {α : Type} {c : Cd α} (n : Nat) (hc : Det c) : Det (cArr n c) := fun w S cs x w' S' cs' h h' => by
  obtain ⟨hl, hxl, hx⟩ := h
  obtain ⟨hl', _, hx'⟩ := h'
  apply List.ext_getElem (by omega)
  intro j hj hj'
  have hs : 0 < c.size := by
    rcases Nat.eq_zero_or_pos c.size with h0 | h0
    · rw [h0] at hl; simp at hl; subst hl; simp at hj
    · exact h0
  have hi : j / c.size < n := by
    rw [Nat.div_lt_iff_lt_mul hs]
    omega
  have hm : j % c.size < c.size := Nat.mod_lt _ hs
  have he : j / c.size * c.size + j % c.size = j := Nat.div_add_mod' _ _
  have hb := hc _ _ _ _ _ _ _ (hx (j / c.size) (x[j / c.size]'(by omega)) (List.getElem?_eq_getElem _)) (hx' (j / c.size) (x[j / c.size]'(by omega)) (List.getElem?_eq_getElem _))
  have hg := congrArg (fun l => l[j % c.size]?) hb
  simp only [List.getElem?_take, if_pos hm, List.getElem?_drop, he, List.getElem?_eq_getElem hj, List.getElem?_eq_getElem hj'] at hg
  exact Option.some.inj hg

/-! ### in a region that draws its order and only reads -/
section
variable {P : Program} {ops : Array Oper} {C : World → Prop} {Q : Act → Prop} {a : Act} {rest : List Oper}
theorem wpQuiet_val {o : Oper} {v : Value} (hg : o.guard = none) (h : ∀ w, C w → (execOp a.eval o).run P w = .ok (.value v) w) (hr : wpQuiet P ops C Q rest (a.put o.dst v)) : wpQuiet P ops C Q (o :: rest) a := by
  unfold wpQuiet
  rw [if_pos (by simp [Region.wanted, hg])]
  refine ⟨v, fun w hw => ?_, hr⟩
  unfold Oper.quietAt
  rw [h w hw]
  exact ⟨rfl, rfl⟩
theorem wpQuiet_load {o : Oper} (hg : o.guard = none) (ty : TypeId) (x : Operand) (ho : o.op = .load ty x) (b off : Nat) (hx : a.eval x = .pointer (some ⟨b, off, none⟩)) (cs : List Value) (d : TypeDesc) (hc : ∀ w, C w → w.rangeAt b off cs)
    (hu : P.underlying ty = some d) (hd : d.isRow = true) (hi : (P.info? ty).map (·.size) = some cs.length) (hr : wpQuiet P ops C Q rest (a.put o.dst (.agg cs.toArray))) : wpQuiet P ops C Q (o :: rest) a :=
  wpQuiet_val hg (fun w hw => by
    unfold execOp
    simp only [ho, hx, Instr.loadAt, Instr.sureAddr, Sem.run_bind, Sem.run_pure, Result.andThen_ok, run_loadVar_mid w b off ty cs d (hc w hw) hu hd hi]) hr
theorem wpQuiet_bin {o : Oper} (hg : o.guard = none) (op : BinOp) (t t' : TypeId) (x y : Operand) (ho : o.op = .binOp op t x y t') (u v r : Value) (hx : a.eval x = u) (hy : a.eval y = v) (he : ∀ w, (eqGuard op t x y u v).run P w = .ok () w) (hb : ∀ w, (binOp op t u v).run P w = .ok r w)
    (hr : wpQuiet P ops C Q rest (a.put o.dst r)) : wpQuiet P ops C Q (o :: rest) a :=
  wpQuiet_val hg (fun w _ => by
    unfold execOp
    simp only [ho, hx, hy, Sem.run_bind, he, Result.andThen_ok, hb, Sem.run_pure]) hr
end
end Go.Proofs.Ytbpibblidokhfaa
