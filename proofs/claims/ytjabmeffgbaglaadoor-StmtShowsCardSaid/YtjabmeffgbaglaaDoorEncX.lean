/- Expressions as arguments: a codec for a type that holds slices of itself. No condition. -/
import Derived.Test.YtjabmeffgbaglaaDoorEncV
import Derived.Test.YtjabmeffgbaglaaDoorTExA
namespace Go.Proofs.YtjabmeffgbaglaaDoor
open Go Go.RowKit Go.Deep Go.Proofs.YtjabmeffgbaglaaDoor.Ab
section
variable {α β : Type} {P : Program}
def OpensB (N : Nat) (P : Program) (t : TypeId) (c : Cd α) : Prop :=
  P.cellsOf t = c.size ∧ ∀ (H : Type) (enc : TypeId × Value → H) (W : World) (fuel : Nat) (cs : List Value) (x : DataW H × List MemPlace), fuel < N →
    DataW.trod enc P W 0 (fun _ => true) true fuel t cs = some x → ∃ a, c.rel W (lt W.heap.size) cs a
theorem OpensB.of {N : Nat} {t : TypeId} {c : Cd α} (h : Opens P t c) : OpensB N P t c :=
  ⟨h.1, fun _ _ _ _ _ _ _ ht => let ⟨a, ha, _⟩ := h.2 _ _ _ _ _ _ ht; ⟨a, ha⟩⟩
theorem opensB_slice {N : Nat} {t e : TypeId} {c : Cd α} (ht : P.underlying t = some (.slice e)) (hc : P.cellsOf t = 1) (hs : 0 < c.size) (he : OpensB N P e c) : OpensB N P t (cSlice c) :=
  ⟨hc, fun _ _ W _ _ _ hN h => by
    rcases DataW.trod_slice ht h with ⟨rfl, rfl⟩ | ⟨a, len, cap, elems, rest, n, rfl, rfl, rfl, hb, hl, hm, hlen, hel, _, _⟩
    · exact ⟨[], ⟨none, 0, 0, rfl, Nat.le_refl _, Nat.zero_le _, SlR.nil _ _ _ _⟩⟩
    · obtain ⟨xs, hxl, hx⟩ := pick (n := len) (p := fun i x => ∃ cs', W.cells? 0 (a.add (i * c.size)) c.size = some cs' ∧ c.rel W (lt W.heap.size) cs' x) (fun i hil => by
        have h1 := hel i hil
        rw [List.getElem?_eq_getElem (by omega)] at h1
        obtain ⟨cs', h1, h2⟩ := Option.bind_eq_some_iff.1 h1
        rw [he.1] at h1
        obtain ⟨y, hy⟩ := he.2 _ _ _ _ _ _ (by omega) h2
        exact ⟨y, cs', h1, hy⟩)
      refine ⟨xs, ⟨some a, len, cap, rfl, hl, hm, hxl, fun hn => ?_⟩⟩
      have hspot : a.spot = none ∧ a.block < W.heap.size := by
        obtain ⟨cs', h1, h2⟩ := hx 0 xs[0] (List.getElem?_eq_getElem (by omega))
        obtain ⟨_, hlen, hcell⟩ := World.cells?_some h1
        have h0 := hcell 0 hs
        have hsome : cs'[0]? = some (cs'[0]'(by omega)) := List.getElem?_eq_getElem (by omega)
        rw [hsome] at h0
        simp only [Nat.zero_mul, Addr.add, if_true] at h0
        exact ⟨World.cell?_spot h0, block_lt_of_cell h0⟩
      obtain ⟨b, o, spot⟩ := a
      obtain rfl : spot = none := hspot.1
      refine ⟨b, o, rfl, hspot.2, fun i x hix => ?_⟩
      obtain ⟨cs', h1, h2⟩ := hx i x hix
      obtain ⟨_, hlen, hcell⟩ := World.cells?_some h1
      refine ⟨cs', fun j u hu => ?_, h2⟩
      have hj : j < c.size := by
        rw [← hlen]
        exact (List.getElem?_eq_some_iff.1 hu).1
      have e1 : ((⟨b, o, none⟩ : Addr).add (i * c.size)).add j = ⟨b, o + i * c.size + j, none⟩ := by
        unfold Addr.add
        by_cases h1 : i * c.size = 0 <;> by_cases h2 : j = 0 <;> simp [h1, h2]
      rw [← e1, hcell j hj, hu]⟩
def OpensFsB (N : Nat) (P : Program) (off : Nat) (fs : List Field) (c : Cd α) : Prop :=
  ∀ (H : Type) (enc : TypeId × Value → H) (W : World) (n : Nat) (cs : List Value) (ys : List (DataW H × List MemPlace)), n < N → cs.length = off + c.size → ys.length = fs.length →
    (∀ (i : Nat) (f : Field), fs[i]? = some f → DataW.trod enc P W 0 (fun _ => true) true n f.type ((cs.drop f.offset).take (P.cellsOf f.type)) = ys[i]?) →
    ∃ a, c.rel W (lt W.heap.size) (cs.drop off) a
theorem opensFsB_nil {N : Nat} (off : Nat) : OpensFsB N P off [] cEnd := fun _ _ _ _ cs ys _ hl _ _ => ⟨(), by
  simp only [cEnd] at hl ⊢
  exact List.drop_eq_nil_of_le (by omega)⟩
theorem opensFsB_cons {N : Nat} {off : Nat} {f : Field} {fs : List Field} {c : Cd α} {d : Cd β} (hoff : f.offset = off) (hf : OpensB N P f.type c) (hr : OpensFsB N P (off + c.size) fs d) : OpensFsB N P off (f :: fs) (cCons c d) :=
  fun H enc W n cs ys hN hl hyl hi => by
    obtain ⟨y, ys, rfl⟩ : ∃ y ys', ys = y :: ys' := by cases ys with
      | nil => simp at hyl
      | cons y ys => exact ⟨y, ys, rfl⟩
    have h0 := hi 0 f rfl
    rw [hf.1, hoff] at h0
    obtain ⟨a, ha⟩ := hf.2 _ _ _ _ _ y hN (by simpa using h0)
    obtain ⟨b, hb⟩ := hr H enc W n cs ys hN (by simp only [cCons] at hl; omega) (by simpa using hyl) fun i g hg => by
      have := hi (i + 1) g (by simpa using hg)
      simpa using this
    refine ⟨(a, b), ⟨(cs.drop off).take c.size, cs.drop (off + c.size), ?_, ha, hb⟩⟩
    rw [← List.drop_drop, List.take_append_drop]
theorem opensB_struct {N : Nat} {t : TypeId} {fs : Array Field} {c : Cd α} (ht : P.underlying t = some (.struct fs)) (hc : P.cellsOf t = c.size) (hf : OpensFsB N P 0 fs.toList c) : OpensB (N + 1) P t c :=
  ⟨hc, fun H enc W _ cs _ hN h => by
    obtain ⟨ys, n, rfl, rfl, hcl, hyl, hi⟩ := DataW.trod_struct ht h
    obtain ⟨a, ha⟩ := hf H enc W n cs ys (by omega) (by rw [hcl, hc]; omega) (by simpa using hyl) (fun i f hif => hi i f (by simpa using hif))
    exact ⟨a, by simpa using ha⟩⟩
end
abbrev cExF (c : Cd Ex) := cCons (cInt .i64) (cCons cVal (cCons cStr (cCons (cSlice c) cEnd)))
abbrev XT := Int × (Int × Int × Int × ByteArray × Unit) × ByteArray × List Ex × Unit
def exOf (x : XT) : Ex := .mk x.1 (vOf x.2.1) x.2.2.1.data.toList x.2.2.2.1
def cExN : Nat → Cd Ex
  | 0 => { size := 7, rel := fun _ _ _ _ => False, bulk := fun _ => 0, len := fun h => h.elim, keep := fun h _ => h.elim, more := fun h _ => h.elim }
  | n + 1 => {
    size := 7
    rel := fun w S cs y => ∃ z, y = exOf z ∧ (cExF (cExN n)).rel w S cs z
    bulk := fun _ => 0
    len := fun h => by obtain ⟨z, _, h⟩ := h; exact (cExF (cExN n)).len h
    keep := fun h hk => by obtain ⟨z, e, h⟩ := h; exact ⟨z, e, (cExF (cExN n)).keep h hk⟩
    more := fun h hk => by obtain ⟨z, e, h⟩ := h; exact ⟨z, e, (cExF (cExN n)).more h hk⟩ }
theorem exN7 (n : Nat) : (cExN n).size = 7 := by cases n <;> rfl
def cEx : Cd Ex where
  size := 7
  rel w S cs y := ∃ n, (cExN n).rel w S cs y
  bulk _ := 0
  len h := by obtain ⟨n, h⟩ := h; rw [(cExN n).len h, exN7]
  keep h hk := by obtain ⟨n, h⟩ := h; exact ⟨n, (cExN n).keep h hk⟩
  more h hk := by obtain ⟨n, h⟩ := h; exact ⟨n, (cExN n).more h hk⟩
theorem exOkL_iff : ∀ l : List Ex, exOkL l ↔ ∀ x ∈ l, exOk x
  | [] => by rw [exOkL]; exact ⟨fun _ _ h => absurd h List.not_mem_nil, fun _ => trivial⟩
  | a :: r => by
    rw [exOkL, exOkL_iff r]
    exact ⟨fun h x hx => (List.mem_cons.1 hx).elim (fun e => e ▸ h.1) (h.2 x), fun h => ⟨h a List.mem_cons_self, fun x hx => h x (List.mem_cons_of_mem _ hx)⟩⟩
theorem relExN {n : Nat} {w : World} {S : Nat → Prop} {cs : List Value} {z : XT} (h : (cExF (cExN n)).rel w S cs z) :
    (Lit.int .i64 z.1).wf = true ∧ (vOf z.2.1).fit ∧ z.2.2.1.size ≤ maxLen ∧ ∃ us, (cSlice (cExN n)).rel w S us z.2.2.2.1 := by
  obtain ⟨_, _, rfl, ⟨_, h1⟩, _, _, rfl, h2, _, _, rfl, ⟨_, h6⟩, us, _, rfl, h7, _⟩ := h
  exact ⟨h1, fitVal h2, h6, us, h7⟩
theorem okExN : ∀ n : Nat, ∀ {w : World} {S : Nat → Prop} {cs : List Value} {x : Ex}, (cExN n).rel w S cs x → exOk x
  | 0, _, _, _, _, h => h.elim
  | n + 1, w, S, cs, x, h => by
    obtain ⟨z, rfl, h⟩ := h
    obtain ⟨h1, h2, h6, us, h7⟩ := relExN h
    show exOk (.mk _ _ _ _)
    rw [exOk]
    exact ⟨wf_i64 h1, h2, h6, slice_len h7, (exOkL_iff _).2 (slice_all (okExN n) h7)⟩
theorem encExN : ∀ n : Nat, Enc (cExN n) eEx
  | 0 => { len := fun h => h.elim, rep := fun h => h.elim }
  | n + 1 => by
    have hz : ∀ z : XT, eEx (exOf z) = [E.v (.int .i64 z.1)] ++ (eVal (vOf z.2.1) ++ ([E.v (.string z.2.2.1)] ++ ([E.sl (z.2.2.2.1.map eEx)] ++ []))) := fun z => by
      rw [eEx_eq, eExs_map]
      rfl
    have hE := enc_cons (enc_int .i64) (enc_cons encVal (enc_cons enc_str (enc_cons (enc_slice (encExN n)) enc_end)))
    exact { len := fun h => by obtain ⟨z, rfl, h⟩ := h; rw [ex7]; rfl
            rep := fun h i y u hy hu => by obtain ⟨z, rfl, h⟩ := h; rw [hz] at hy; exact hE.rep h i y u hy hu }
theorem okEx {w : World} {S : Nat → Prop} {cs : List Value} {x : Ex} (h : cEx.rel w S cs x) : exOk x := let ⟨n, h⟩ := h; okExN n h
theorem encExpr : Enc cEx eEx where
  len _ := by rw [ex7]; rfl
  rep h := let ⟨n, h⟩ := h; (encExN n).rep h
theorem opens_exN {P : Program} {t ti tv ts tl : TypeId} {fs : Array Field} (ht : P.underlying t = some (.struct fs)) (hc : P.cellsOf t = 7) (hfs : fs.toList.map (fun f => (f.offset, f.type)) = [(0, ti), (1, tv), (5, ts), (6, tl)])
    (hi : Opens P ti (cInt .i64)) (hv : Opens P tv cVal) (hs : Opens P ts cStr) (hl : P.underlying tl = some (.slice t)) (hlc : P.cellsOf tl = 1) : ∀ n, OpensB n P t (cExN n)
  | 0 => ⟨hc, fun _ _ _ _ _ _ h => absurd h (by omega)⟩
  | n + 1 => by
    have hS : OpensB n P tl (cSlice (cExN n)) := opensB_slice hl hlc (by rw [exN7]; decide) (opens_exN ht hc hfs hi hv hs hl hlc n)
    obtain ⟨a, b, f, g, hfs, ha, hb, hf, hg⟩ : ∃ a b f g : Field, fs.toList = [a, b, f, g] ∧ (a.offset = 0 ∧ a.type = ti) ∧ (b.offset = 1 ∧ b.type = tv) ∧ (f.offset = 5 ∧ f.type = ts) ∧ (g.offset = 6 ∧ g.type = tl) := by
      generalize fs.toList = L at hfs
      rcases L with _ | ⟨a, _ | ⟨b, _ | ⟨c, _ | ⟨d, _ | ⟨e, r⟩⟩⟩⟩⟩ <;> simp only [List.map_cons, List.map_nil, List.cons.injEq, Prod.mk.injEq, reduceCtorEq, and_false, and_true] at hfs
      exact ⟨a, b, c, d, rfl, hfs⟩
    have hF : OpensFsB n P 0 fs.toList (cExF (cExN n)) := by
      rw [hfs]
      exact opensFsB_cons ha.1 (ha.2 ▸ .of hi) (opensFsB_cons hb.1 (hb.2 ▸ .of hv) (opensFsB_cons hf.1 (hf.2 ▸ .of hs) (opensFsB_cons hg.1 (hg.2 ▸ hS) (opensFsB_nil _))))
    have := opensB_struct (c := cExF (cExN n)) ht hc hF
    exact ⟨hc.trans (exN7 _).symm, fun H enc W fuel cs x hN h => let ⟨z, hz⟩ := this.2 H enc W fuel cs x hN h; ⟨exOf z, z, rfl, hz⟩⟩
theorem opens_ex {P : Program} {t ti tv ts tl : TypeId} {fs : Array Field} (ht : P.underlying t = some (.struct fs)) (hc : P.cellsOf t = 7) (hfs : fs.toList.map (fun f => (f.offset, f.type)) = [(0, ti), (1, tv), (5, ts), (6, tl)])
    (hi : Opens P ti (cInt .i64)) (hv : Opens P tv cVal) (hs : Opens P ts cStr) (hl : P.underlying tl = some (.slice t)) (hlc : P.cellsOf tl = 1) : Opens P t cEx :=
  ⟨hc, fun H enc W fuel cs x h => let ⟨a, ha⟩ := (opens_exN ht hc hfs hi hv hs hl hlc (fuel + 1)).2 H enc W fuel cs x (Nat.lt_succ_self _) h; ⟨a, ⟨fuel + 1, ha⟩, Nat.zero_le _⟩⟩
end Go.Proofs.YtjabmeffgbaglaaDoor
