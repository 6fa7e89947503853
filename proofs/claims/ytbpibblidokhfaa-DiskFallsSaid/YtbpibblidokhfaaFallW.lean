/- The walks of disk.fall at the two closures that it is handed. No condition. -/
import Derived.Test.YtbpibblidokhfaaWideW
import Derived.Test.YtbpibblidokhfaaDisk3W
namespace Go.Proofs.Ytbpibblidokhfaa
open Go.ChangeShapes Go.WideShapes Go.ChangeAt Go.RowKit Go.Deep

def bitAt (x : Int) (j : Nat) : Bool := (BitVec.ofInt 64 x).getLsbD j
theorem and_pow (a : Int) (k : Nat) (hk : k < 63) : Go.bits .and .i64 a (2 ^ k) = if bitAt a k then 2 ^ k else 0 := by
  have h2 : BitVec.ofInt 64 (2 ^ k) = BitVec.twoPow 64 k := by
    apply BitVec.eq_of_toNat_eq
    rw [BitVec.toNat_ofInt, BitVec.toNat_twoPow]
    have : ((2 : Int) ^ k) = ((2 ^ k : Nat) : Int) := by simp
    rw [this]
    exact_mod_cast rfl
  have hp : (2 : Nat) ^ k < 2 ^ 63 := Nat.pow_lt_pow_right (by decide) hk
  show IntKind.i64.wrap ((BitVec.ofInt 64 a &&& BitVec.ofInt 64 (2 ^ k) : BitVec 64).toNat : Int) = _
  rw [h2, BitVec.and_twoPow]
  unfold bitAt
  by_cases hb : (BitVec.ofInt 64 a).getLsbD k = true
  all_goals simp only [hb, if_true, Bool.false_eq_true, if_false]
  · rw [BitVec.toNat_twoPow, Nat.mod_eq_of_lt (by omega)]
    have : ((2 : Int) ^ k) = ((2 ^ k : Nat) : Int) := by simp
    rw [this]
    generalize (2 : Nat) ^ k = q at hp ⊢
    rw [IntWalk.i64_left, IntWalk.wrap64_in _ (by omega)]
  · rfl
theorem bit_div (x : Int) (j : Nat) (hx : (Lit.int .i64 x).wf = true) (hj : j < 63) : bitAt (x / 2 ^ j) 0 = bitAt x j := by
  have hx' : -9223372036854775808 ≤ x ∧ x ≤ 9223372036854775807 := by
    simp [Lit.wf, IntKind.min, IntKind.max, IntKind.signed, IntKind.bits] at hx
    omega
  have e : (BitVec.ofInt 64 x).toInt = x := by
    rw [BitVec.toInt_ofInt]
    simp [Int.bmod]
    omega
  have e2 : x / 2 ^ j = ((BitVec.ofInt 64 x).sshiftRight j).toInt := by
    rw [BitVec.toInt_sshiftRight, e, Int.shiftRight_eq_div_pow]
    simp
  unfold bitAt
  rw [e2, BitVec.ofInt_toInt, BitVec.getLsbD_sshiftRight]
  simp
  omega

theorem shr_test (x : Int) (j : Nat) (hx : (Lit.int .i64 x).wf = true) (hj : j < 63) : (Go.bits .and .i64 (x / 2 ^ j) 1 == 1) = bitAt x j := by
  have h := and_pow (x / 2 ^ j) 0 (by decide)
  rw [show (2 : Int) ^ 0 = 1 from rfl, bit_div x j hx hj] at h
  rw [h]
  cases bitAt x j <;> rfl
theorem shl_test (x : Int) (k : Nat) (hk : k < 63) : (Go.bits .and .i64 x (2 ^ k) != 0) = bitAt x k := by
  rw [and_pow x k hk]
  cases bitAt x k
  · rfl
  · have : (2 : Int) ^ k ≠ 0 := Int.pow_ne_zero (by decide)
    simp [this]

theorem sync1_any (W : World) (i : Int) : Calls Try.prog 56 #[.int .i64 i] W fun e w' => e = .returned (.bool true) ∧ w' = W := by
  go_enter Try.func56, Try.ntmps56
  go_wp2
  go_ret
  exact ⟨rfl, rfl⟩

theorem crash1_any (W : World) (j : Nat) (x : Int) (g : Nat) (hw : (Lit.int .i64 x).wf = true) (hj : j < 63) (hx : W.cell? ⟨g, 0, none⟩ = some (.int .i64 x)) : Calls Try.prog 57 #[.int .i64 j, .pointer (some ⟨g, 0, none⟩)] W fun e w' => e = .returned (.bool (bitAt x j)) ∧ w' = W := by
  have ht := shr_test x j hw hj
  go_enter Try.func57, Try.ntmps57
  go_wp2
  go_ret
  exact ⟨by rw [← ht]; rfl, rfl⟩

/-- of what was written that which f says lasts -/
def setAt (f : Nat → Bool) (ws : List PutT) (l : List (List UInt8)) : List (List UInt8) := ws.zipIdx.foldl (fun o p => if f p.2 then o.set p.1.1.toNat p.1.2.1 else o) l
def oneAt (f : Nat → Bool) (i : Nat) (ws : List PutT) (b : List UInt8) : List UInt8 := ws.zipIdx.foldl (fun b p => if p.1.1 = (i : Int) ∧ f p.2 = true then p.1.2.1 else b) b
theorem zipIdx_snoc {ws : List PutT} {k : Nat} {x : PutT} (hx : ws[k]? = some x) : (ws.take (k + 1)).zipIdx = (ws.take k).zipIdx ++ [(x, k)] := by
  have hk := (List.getElem?_eq_some_iff.1 hx).1
  rw [List.take_add_one, hx, Option.toList_some, List.zipIdx_append, List.length_take, Nat.min_eq_left (by omega)]
  simp
theorem setAt_snoc {f : Nat → Bool} {ws : List PutT} {l : List (List UInt8)} {k : Nat} {x : PutT} (hx : ws[k]? = some x) : setAt f (ws.take (k + 1)) l = if f k then (setAt f (ws.take k) l).set x.1.toNat x.2.1 else setAt f (ws.take k) l := by
  unfold setAt
  rw [zipIdx_snoc hx, List.foldl_append]
  rfl
theorem oneAt_snoc {f : Nat → Bool} {i : Nat} {ws : List PutT} {b : List UInt8} {k : Nat} {x : PutT} (hx : ws[k]? = some x) : oneAt f i (ws.take (k + 1)) b = if x.1 = (i : Int) ∧ f k = true then x.2.1 else oneAt f i (ws.take k) b := by
  unfold oneAt
  rw [zipIdx_snoc hx, List.foldl_append]
  rfl
theorem setAt_length {f : Nat → Bool} {ws : List PutT} {l : List (List UInt8)} : (setAt f ws l).length = l.length := by
  unfold setAt
  generalize ws.zipIdx = qs
  induction qs generalizing l with
  | nil => rfl
  | cons q qs ih =>
    rw [List.foldl_cons, ih]
    split
    · simp
    · rfl
theorem setAt_get {f : Nat → Bool} {ws : List PutT} {l : List (List UInt8)} (h : ∀ w ∈ ws, 0 ≤ w.1 ∧ w.1 < (l.length : Int)) (i : Nat) : (setAt f ws l)[i]? = (l[i]?).map (oneAt f i ws) := by
  unfold setAt oneAt
  have h' : ∀ q ∈ ws.zipIdx, 0 ≤ q.1.1 ∧ q.1.1 < (l.length : Int) := fun q hq => h q.1 (by have := List.mem_zipIdx' hq; rw [this.2]; exact List.getElem_mem _)
  clear h
  generalize ws.zipIdx = qs at h'
  induction qs generalizing l with
  | nil => simp
  | cons q qs ih =>
    have hq := h' q (List.mem_cons_self ..)
    rw [List.foldl_cons, ih (fun r hr => by
      have := h' r (List.mem_cons_of_mem _ hr)
      split
      · simpa using this
      · exact this)]
    by_cases hf : f q.2 = true
    · rw [if_pos hf, List.getElem?_set]
      by_cases hi : q.1.1.toNat = i
      · have hi' : q.1.1 = (i : Int) := by omega
        have hl : i < l.length := by omega
        rw [if_pos hi, if_pos (by omega), List.getElem?_eq_getElem hl]
        simp [hi', hf]
      · have hi' : ¬ q.1.1 = (i : Int) := by omega
        rw [if_neg hi]
        simp [hi']
    · rw [if_neg hf]
      simp [hf]
theorem diskF_all {l : List (List UInt8)} {ws : List PutT} (h : diskF l ws = 0) : ∀ w ∈ ws, 0 ≤ w.1 ∧ w.1 < (l.length : Int) := by
  intro w hw
  have hs := diskF_sizes h
  apply Classical.byContradiction
  intro hn
  obtain ⟨k, hk, rfl⟩ := List.getElem_of_mem hw
  rw [diskF_bad (by omega) (List.getElem?_eq_getElem hk) hn] at h
  cases h

theorem below_cells {B b : Nat} (hb : B ≤ b) : ∀ (vs : List Value) (o : Nat) {a w : World}, Below B a w → Below B a (w.setCells b o vs)
  | [], _, _, _, h => h
  | v :: r, o, _, _, h => below_cells hb r (o + 1) (h.setCell (p := ⟨b, o, none⟩) hb v)
theorem size_cells {b : Nat} : ∀ (vs : List Value) (o : Nat) (w : World), (w.setCells b o vs).heap.size = w.heap.size
  | [], _, _ => rfl
  | v :: r, o, w => (size_cells r (o + 1) _).trans (by simp)
/-- a row of two cells as the first of two results -/
theorem run_results_pair {P : Program} {fn : Func} {tmps : Array Value} {w : World} {s q : Nat} {t : TypeId} (h : fn.results = #[.cell s t, .tmp q]) (g : Nat) (ha : tmps.getD s undef = .pointer (some ⟨g, 0, none⟩)) (cs : Array Value) {t' : TypeId} {fr : Nat × Nat} (hc : w.heap[g]? = some (.cells cs t' fr)) (d : TypeDesc)
    (hu : P.underlying t = some d) (hd : d.isRow = true) (hi : (P.info? t).map (·.size) = some cs.toList.length) (v : Value) (hv : tmps.getD q undef = v) : (results fn tmps).run P w = .ok (.tuple #[.agg cs, v]) w := by
  have := run_results_row2 (P := P) h g ha cs.toList d (row_at (w := w) (g := g) (cs := cs.toList) (by simpa using hc)) hu hd hi v hv
  simpa using this

/-- the sectors of a block that is wholly theirs to write -/
def Secs (w : World) (g : Nat) (xs : List (List UInt8)) : Prop := w.there g 0 (xs.length * 32) ∧ ∀ i x, xs[i]? = some x → x.length = 32 ∧ w.rangeAt g (i * 32) (encS x)
theorem Secs.alloc {w : World} {g : Nat} {xs : List (List UInt8)} (h : Secs w g xs) (o : Obj) : Secs (w.alloc o) g xs := ⟨World.there_alloc h.1 o, fun i x hi => ⟨(h.2 i x hi).1, World.rangeAt_alloc (h.2 i x hi).2 o⟩⟩
theorem Secs.other {w w' : World} {g : Nat} {xs : List (List UInt8)} (h : Secs w g xs) (hk : w'.heap[g]? = w.heap[g]?) : Secs w' g xs :=
  ⟨fun j hj => by rw [World.cell?_of_block (w := w) hk, World.frozen?_of_block (w := w) hk]; exact h.1 j hj, fun i x hi => ⟨(h.2 i x hi).1, fun j u hu => by rw [World.cell?_of_block (w := w) hk]; exact (h.2 i x hi).2 j u hu⟩⟩
theorem Secs.thereAt {w : World} {g : Nat} {xs : List (List UInt8)} (h : Secs w g xs) {i : Nat} (hi : i < xs.length) : w.there g (i * 32) 32 := fun j hj => by
  have := h.1 (i * 32 + j) (by omega)
  rw [Nat.zero_add] at this
  exact this
theorem Secs.set {w : World} {g : Nat} {xs : List (List UInt8)} (h : Secs w g xs) {i : Nat} (hi : i < xs.length) {y : List UInt8} (hy : y.length = 32) : Secs (w.setCells g (i * 32) (encS y)) g (xs.set i y) := by
  refine ⟨by rw [List.length_set]; exact World.there_setCells h.1 _ _ _, fun j x hj => ?_⟩
  rw [List.getElem?_set] at hj
  by_cases hij : i = j
  · subst hij
    rw [if_pos rfl, if_pos hi] at hj
    obtain rfl := Option.some.inj hj
    exact ⟨hy, World.rangeAt_setCells_same _ _ _ _ (by rw [encS_length, hy]; exact h.thereAt hi)⟩
  · rw [if_neg hij] at hj
    obtain ⟨h1, h2⟩ := h.2 j x hj
    refine ⟨h1, World.rangeAt_setCells_apart h2 _ _ _ (.inr ?_)⟩
    rw [encS_length, encS_length, h1, hy]
    omega
theorem Secs.slR {w : World} {g : Nat} {xs : List (List UInt8)} (h : Secs w g xs) {S : Nat → Prop} (hg : S g) : SlR cSector w S (some ⟨g, 0, none⟩) xs.length xs :=
  ⟨rfl, fun _ => ⟨g, 0, rfl, hg, fun i x hi => ⟨encS x, (by
    have := (h.2 i x hi).2
    rw [← Nat.zero_add (i * 32)] at this
    exact this), sector_enc _ _ (h.2 i x hi).1⟩⟩⟩
theorem rows_own {w : World} {base n : Nat} {e : TypeId} {v : Value} {cs : List Value} {xs : List (List UInt8)} (h : w.ownsRow base e 32 v n cs) (hn : n = xs.length) (h0 : 0 < n) (hc : Chunks cSector w (lt base) cs xs) :
    ∃ g cap, v = .slice (some ⟨g, 0, none⟩) n cap ∧ base ≤ g ∧ g < w.heap.size ∧ n ≤ cap ∧ cap ≤ maxLen ∧ Secs w g xs := by
  rcases h.2 with ⟨rfl, rfl⟩ | ⟨g, cap, cur, rfl, hbg, hg, hnc, hcm, hcs, htake⟩
  · omega
  · refine ⟨g, cap, rfl, hbg, (Array.getElem?_eq_some_iff.1 hg).1, hnc, hcm, fun j hj => ?_, fun i x hi => ?_⟩
    · have hj' : j < cur.size := by rw [hcs]; rw [← hn] at hj; exact Nat.lt_of_lt_of_le hj (Nat.mul_le_mul_right _ hnc)
      rw [Nat.zero_add, cell_of_row _ _ _ _ _ _ hg]
      exact ⟨by simp [hj'], by simp [World.frozen?, hg]⟩
    · obtain ⟨h1, h2⟩ := sector_cells (hc.2 i x hi)
      have hs : cSector.size = 32 := rfl
      rw [hs] at h1
      refine ⟨h2, fun j u hu => ?_⟩
      rw [← h1, List.getElem?_take] at hu
      split at hu
      · rw [List.getElem?_drop] at hu
        have := h.cells (g := g) rfl _ u hu
        rw [Addr.add_lit, Nat.zero_add] at this
        exact this
      · cases hu

theorem chunks_any {w w' : World} {S S' : Nat → Prop} {cs : List Value} {xs : List (List UInt8)} (h : Chunks cSector w S cs xs) : Chunks cSector w' S' cs xs := ⟨h.1, fun i x hi => by
  obtain ⟨h1, h2⟩ := sector_cells (h.2 i x hi)
  rw [h1]
  exact sector_enc _ _ h2⟩
theorem cell_up {B : Nat} {w w' : World} {b i : Nat} {v : Value} (h : w.cell? ⟨b, i, none⟩ = some v) (hb : Below B w w') (hlt : b < B) : w'.cell? ⟨b, i, none⟩ = some v := (hb.cell (p := ⟨b, i, none⟩) hlt).trans h
theorem two_one (A B : Option Addr) (n c n' c' : Nat) : (#[.slice A n c, .slice B n' c'] : Array Value).all (·.oneCell') = true := by
  rw [Array.all_eq_true_iff_forall_mem]
  intro v hv
  simp at hv
  rcases hv with rfl | rfl <;> rfl
theorem sizeDisk : (Try.prog.info? 54).map (·.size) = some 2 := by kernel_rfl

/-- the blocks made since -/
def nw (W w' : World) : Nat → Prop := fun b => W.heap.size ≤ b ∧ b < w'.heap.size
/-- what a fall leaves, with its number -/
def Fell (f : Nat → Bool) (l : List (List UInt8)) (ws : List PutT) (W : World) (e : Ending) (w' : World) : Prop :=
  Below W.heap.size W w' ∧ ∃ A c, e = .returned (.tuple #[.agg #[.slice A (if diskF l ws = 0 then setAt f ws l else []).length c, .slice none 0 0], .int .i64 (diskF l ws)]) ∧
    SlR cSector w' (nw W w') A (if diskF l ws = 0 then setAt f ws l else []).length (if diskF l ws = 0 then setAt f ws l else [])
theorem Fell.bad {f : Nat → Bool} {l : List (List UInt8)} {ws : List PutT} {W w' : World} {e : Ending} {k : Int} (h : diskF l ws = k) (hk : k ≠ 0) (hb : Below W.heap.size W w') (he : e = .returned (.tuple #[.agg #[.slice none 0 0, .slice none 0 0], .int .i64 k])) : Fell f l ws W e w' := by
  unfold Fell
  rw [h, if_neg hk]
  exact ⟨hb, none, 0, he, SlR.nil _ _ _ _⟩
theorem Fell.good {f : Nat → Bool} {l : List (List UInt8)} {ws : List PutT} {W w' : World} {e : Ending} {g n c : Nat} (h : diskF l ws = 0) (hb : Below W.heap.size W w') (hn : n = l.length) (hg : W.heap.size ≤ g) (hg' : g < w'.heap.size) (hr : Secs w' g (setAt f ws l)) (he : e = .returned (.tuple #[.agg #[.slice (some ⟨g, 0, none⟩) n c, .slice none 0 0], .int .i64 0])) : Fell f l ws W e w' := by
  unfold Fell
  rw [h, if_pos rfl]
  refine ⟨hb, _, c, ?_, hr.slR ⟨hg, hg'⟩⟩
  rw [setAt_length, ← hn]
  exact he

set_option maxRecDepth 100000 in
set_option maxHeartbeats 1600000 in
theorem fallSync_any (W : World) (A A' : Option Addr) (n c n' c' : Nat) (l : List (List UInt8)) (ws : List PutT) (h : SlR cSector W (lt W.heap.size) A n l) (h' : SlR cPut W (lt W.heap.size) A' n' ws) :
    Calls Try.prog 55 #[.agg #[.slice A n c, .slice A' n' c'], .func (.func 56) #[] #[]] W (Fell (fun _ => true) l ws W) := by
  have C1 := Lib.hid (fun w (hb : Below W.heap.size W w) => Check_any w A A' n c n' c' l ws ((h.below hb).up hb.size) ((h'.below hb).up hb.size))
  have hb0 : Below W.heap.size W ((W.alloc (.cells #[.slice A n c, .slice A' n' c'] 54)).alloc (.cells #[.slice none 0 0, .slice none 0 0] 54)) := ((Below.refl _ _).alloc (Nat.le_refl _) _).alloc (by simp) _
  have HL := Lib.hid h.1
  have H := Lib.hid h
  have H' := Lib.hid h'
  clear h h'
  by_cases hf : diskF l ws = 0
  · rw [hf] at C1
    have HF := Lib.hid hf
    have HALL := Lib.hid (diskF_all hf)
    have hsz := diskF_sizes hf
    have hn0 : 0 < n := by have := HL.out; omega
    have hn400 : n ≤ 400 := by have := HL.out; omega
    have hn60 : n' ≤ 60 := by have := H'.out.1; omega
    clear hf hsz
    obtain ⟨i0, hi, hz0, hz1, hz2⟩ := info_parts infoSector
    go_enter Try.func55, Try.ntmps55
    go_wp2_with fail
    refine (C1.out _ hb0).mono ?_
    rintro e w1 ⟨rfl, hb1⟩
    have r0 := (hb1.block _ (by simp; omega)).trans (row_fst W _ _)
    have R1 := Lib.hid ((hb1.block _ (by simp)).trans (row_snd W _ _))
    have k0 : w1.cell? ⟨W.heap.size, 0, none⟩ = some (.slice A n c) := by rw [cell_of_row _ _ _ _ _ _ r0]; rfl
    have k1 : w1.cell? ⟨W.heap.size, 1, none⟩ = some (.slice A' n' c') := by rw [cell_of_row _ _ _ _ _ _ r0]; rfl
    have hW1 : W.heap.size + 2 ≤ w1.heap.size := by have := hb1.size; simpa using this
    have hbW1 := hb0.trans (hb1.mono hb0.size)
    clear hb1 hb0 r0
    have hba : Below w1.heap.size w1 (w1.alloc (.cells #[] 76)) := (Below.refl _ _).alloc (Nat.le_refl _) _
    have k0 := cell_keep k0 hba
    have k1 := cell_keep k1 hba
    have hbW2 := hbW1.trans (hba.mono hbW1.size)
    have HS := Lib.hid ((H.out.below hbW2))
    obtain ⟨news, hsrc, hch⟩ := src_slr (P := Try.prog) (tx := 51) (cap := c) Try.underlying51 (one_arr 32 one_byte) HS.out
    have HSRC := Lib.hid hsrc
    have HCH := Lib.hid hch
    have HO := Lib.hid (show (w1.alloc (.cells #[] 76)).ownsRow w1.heap.size 76 32 (.slice (some ⟨w1.heap.size, 0, none⟩) 0 0) 0 [] from by
      have := World.ownsRow_lit (base := w1.heap.size) (e := 76) (size := 32) w1 #[] 0 (Nat.le_refl _) (by unfold maxLen; omega) rfl
      simpa using this)
    clear hsrc hch hba
    go_wp2_with (first | (at_builtin; refine wpList_app _ rfl (.tmp 16) (.tmp 18) 51 51 rfl w1.heap.size 76 i0 _ 32 32 Try.underlying51 hi hz0 hz1 hz2 rfl (by decide) _ _ _ rfl HO.out _ _ _ rfl HSRC.out (by unfold maxLen; omega) (by omega) (by simp) ?_; intro v2 w2 hown2 hg2 hat2; rw [Nat.zero_add, List.nil_append] at hown2; obtain ⟨g, cap, hv2, hbg, hgl, hnc, hcm, hsec⟩ := rows_own hown2 HL.out.symm hn0 (chunks_any HCH.out); subst hv2; have hb2 : Below w1.heap.size (w1.alloc (.cells #[] 76)) w2 := (Below.refl _ _).grown hg2 (by simp) (fun q hq => by cases hq; exact Nat.le_refl _); have hba := (Below.refl w2.heap.size w2).alloc (Nat.le_refl _) (.cells #[.slice (some ⟨g, 0, none⟩) n cap, .slice none 0 0] 54); have k0 := cell_keep (cell_up k0 hb2 (by omega)) hba; have k1 := cell_keep (cell_up k1 hb2 (by omega)) hba))
    have q0 : (w2.alloc (.cells #[.slice (some ⟨g, 0, none⟩) n cap, .slice none 0 0] 54)).cell? ⟨w2.heap.size, 0, none⟩ = some (.slice (some ⟨g, 0, none⟩) n cap) := by rw [cell_of_row _ _ _ _ _ _ (heap_alloc_new w2 _)]; rfl
    have q1 : (w2.alloc (.cells #[.slice (some ⟨g, 0, none⟩) n cap, .slice none 0 0] 54)).cell? ⟨w2.heap.size, 1, none⟩ = some (.slice none 0 0) := by rw [cell_of_row _ _ _ _ _ _ (heap_alloc_new w2 _)]; rfl
    have hsA : (w2.alloc (.cells #[.slice (some ⟨g, 0, none⟩) n cap, .slice none 0 0] 54)).heap.size = w2.heap.size + 1 := by simp
    have hsecA := hsec.alloc (.cells #[.slice (some ⟨g, 0, none⟩) n cap, .slice none 0 0] 54)
    have hbel1 : Below w1.heap.size w1 (w2.alloc (.cells #[.slice (some ⟨g, 0, none⟩) n cap, .slice none 0 0] 54)) := (((Below.refl _ _).alloc (Nat.le_refl _) _).trans hb2).trans (hba.mono (by have := hb2.size; simp at this; omega))
    have hqg : w1.heap.size ≤ w2.heap.size := by have := hb2.size; simp at this; omega
    clear k0 k1 hba hb2 hat2 hg2 hown2 HO HSRC HCH HS hbW2 hsec
    generalize w2.alloc (.cells #[.slice (some ⟨g, 0, none⟩) n cap, .slice none 0 0] 54) = w3 at *
    go_loopw [24] (fun i wr => ∃ k : Nat, k ≤ n' ∧ i = .int .i64 k ∧ Below w1.heap.size w1 wr ∧ w2.heap.size + 1 ≤ wr.heap.size ∧ Secs wr g (setAt (fun _ => true) (ws.take k) l) ∧ wr.cell? ⟨w2.heap.size, 0, none⟩ = some (.slice (some ⟨g, 0, none⟩) n cap) ∧ wr.cell? ⟨w2.heap.size, 1, none⟩ = some (.slice none 0 0)) (fun i _ => n' - (intOf i).toNat)
    case atStart => exact ⟨0, Nat.zero_le _, rfl, hbel1, by omega, hsecA, q0, q1⟩
    case round =>
      clear hbel1 hsecA q0 q1 hsA
      obtain ⟨k, hk, rfl, hbel, hsz, hsec, q0, q1⟩ := hrel
      by_cases hlt : k < n'
      · obtain ⟨b', o', rfl, hb', p, cs', hx', hat', hcl', hr'⟩ := H'.out.elemAt hlt
        obtain ⟨sc, rfl, hsec', _⟩ := put_head hr'
        obtain ⟨rfl, hp32⟩ := sector_cells hsec'
        obtain ⟨hv0, hvn⟩ := HALL.out p (List.mem_of_getElem? hx')
        obtain ⟨a, ha⟩ := Int.eq_ofNat_of_zero_le hv0
        have han : a < n := by have := HL.out; omega
        have HSN := Lib.hid (setAt_snoc (f := (fun _ => true)) (l := l) hx')
        have HO2 := Lib.hid (one_put _ _ _ _ hr')
        have HAT2 := Lib.hid (show wr.rangeAt b' (o' + k * 33) (.int .i64 p.1 :: encS p.2.1) from rangeAt_below hat' (hbW1.trans (hbel.mono hbW1.size)) hb')
        have HC2 := Lib.hid (show (Try.prog.info? 91).map (·.size) = some (Value.int .i64 p.1 :: encS p.2.1).length from by rw [hcl']; exact sizePut)
        have HZ2 := Lib.hid (show 33 = (Value.int .i64 p.1 :: encS p.2.1).toArray.size from by rw [List.size_toArray, hcl']; rfl)
        have HDL := Lib.hid (show (Try.prog.info? 76).map (·.size) = some (encS p.2.1).length from by rw [encS_length, hp32]; exact sizeSector)
        have HDA := Lib.hid (show (Try.prog.info? 76).map (·.size) = some (encS p.2.1).toArray.size from by rw [List.size_toArray]; exact HDL.out)
        have hrow2 := heap_alloc_new wr (.cells (Value.int .i64 p.1 :: encS p.2.1).toArray 91)
        have hc0 : (wr.alloc (.cells (Value.int .i64 p.1 :: encS p.2.1).toArray 91)).cell? ⟨wr.heap.size, 0, none⟩ = some (.int .i64 p.1) := by rw [cell_of_row _ _ _ _ _ _ hrow2]; rfl
        have HT := Lib.hid (show (wr.alloc (.cells (Value.int .i64 p.1 :: encS p.2.1).toArray 91)).rangeAt wr.heap.size 1 (encS p.2.1) from row_tail hrow2)
        have hba := (Below.refl wr.heap.size wr).alloc (Nat.le_refl _) (.cells (Value.int .i64 p.1 :: encS p.2.1).toArray 91)
        have q0 := cell_keep q0 hba
        have q1 := cell_keep q1 hba
        have hsecA := hsec.alloc (.cells (Value.int .i64 p.1 :: encS p.2.1).toArray 91)
        have HTH := Lib.hid (show (wr.alloc (.cells (Value.int .i64 p.1 :: encS p.2.1).toArray 91)).there g (a * 32) (encS p.2.1).toArray.size from by rw [List.size_toArray, encS_length, hp32]; exact hsecA.thereAt (by rw [setAt_length, HL.out]; exact han))
        have hbA : Below w1.heap.size w1 (wr.alloc (.cells (Value.int .i64 p.1 :: encS p.2.1).toArray 91)) := hbel.alloc hbel.size _
        have hsA : w2.heap.size + 1 ≤ (wr.alloc (.cells (Value.int .i64 p.1 :: encS p.2.1).toArray 91)).heap.size := by simp; omega
        rw [ha] at HO2 HAT2 HC2 HZ2 hrow2 hc0 HT hba q0 q1 hsecA HTH hbA hsA HSN
        have HSA := Lib.hid hsecA
        clear hat' hr' hx' hcl' hsec' hrow2 hsec ha hv0 hvn hba hsecA
        go_wp2_with (first | ((with_reducible refine wpList_load_mid (op := ⟨some 28, _, _, _, _, _⟩) rfl 91 (.tmp 27) rfl b' (o' + k * 33) ?_ (.int .i64 (a : Int) :: encS p.2.1) _ HAT2.out Try.underlying91 rfl HC2.out ?_); rfl) | ((with_reducible refine wpList_store_new (o := ⟨none, _, _, _, _, _⟩) rfl 91 (.tmp 9) (.tmp 28) rfl _ (.int .i64 (a : Int) :: encS p.2.1).toArray ?_ ?_ ?_ HZ2.out ?_ ?_); rfl; rfl; (simpa using HC2.out); (simpa using HO2.out)) | (go_at_call 56; (with_reducible refine (sync1_any _ _).mono ?_); rintro e w5 ⟨rfl, rfl⟩) | ((with_reducible refine wpList_load_mid (op := ⟨some 37, _, _, _, _, _⟩) rfl 76 (.tmp 36) rfl wr.heap.size 1 ?_ (encS p.2.1) _ HT.out Try.underlying76 rfl HDL.out ?_); rfl) | ((with_reducible refine wpList_store_mid (op := ⟨none, _, _, _, _, _⟩) rfl 76 (.tmp 38) (.tmp 37) rfl g (a * 32) (encS p.2.1).toArray ?_ ?_ HTH.out HDA.out (encS_one _) ?_); rfl; rfl))
        go_roundw
        case rel =>
          refine ⟨k + 1, by omega, by go_num, below_cells hbg _ _ hbA, by rw [size_cells]; exact hsA, ?_, ?_, ?_⟩
          · rw [HSN.out, if_pos (by trivial), Int.toNat_natCast]
            exact HSA.out.set (by rw [setAt_length, HL.out]; exact han) hp32
          · rw [World.cell?_setCells_out g _ _ _ _ (fun hb _ => absurd hb (by show ¬ w2.heap.size = g; omega))]
            exact q0
          · rw [World.cell?_setCells_out g _ _ _ _ (fun hb _ => absurd hb (by show ¬ w2.heap.size = g; omega))]
            exact q1
        case measure => simp [intOf]; omega
      · obtain rfl : k = n' := by omega
        have he : ws.take k = ws := List.take_of_length_le (by have := H'.out.1; omega)
        rw [he] at hsec
        have R2 := Lib.hid ((hbel.block (W.heap.size + 1) (by omega)).trans R1.out)
        have HSEC := Lib.hid hsec
        clear hsec he
        go_wp2_with (first | ((with_reducible refine wpList_store_row (o := ⟨none, _, _, _, _, _⟩) rfl 54 (.tmp 4) (.tmp 40) rfl (W.heap.size + 1) #[.slice (some ⟨g, 0, none⟩) n cap, .slice none 0 0] ?_ ?_ 54 _ R2.out ?_ ?_ (two_one _ _ _ _ _ _) ?_); rfl; rfl; exact sizeDisk; rfl))
        have hbf : Below W.heap.size W (wr.setRow (W.heap.size + 1) #[.slice (some ⟨g, 0, none⟩) n cap, .slice none 0 0]) := below_setRow (hbW1.trans (hbel.mono hbW1.size)) (by omega) _
        have HRF := setRow_heap wr (W.heap.size + 1) _ #[.slice (some ⟨g, 0, none⟩) n cap, .slice none 0 0] _ _ R2.out
        exact bodyPost_ret (v := .tuple #[.agg #[.slice (some ⟨g, 0, none⟩) n cap, .slice none 0 0], .int .i64 0]) (run_results_pair rfl (W.heap.size + 1) rfl #[.slice (some ⟨g, 0, none⟩) n cap, .slice none 0 0] HRF _ Try.underlying54 rfl sizeDisk (.int .i64 0) rfl) rfl
          (Fell.good HF.out hbf HL.out.symm (by omega) (by rw [setRow_size]; omega) (HSEC.out.other (setRow_other wr (W.heap.size + 1) g _ (by omega))) rfl)
  · have HF := Lib.hid (show diskF l ws = diskF l ws from rfl)
    have HN := Lib.hid hf
    clear hf
    generalize hfe : diskF l ws = f at C1 HF HN
    have HE := Lib.hid hfe
    clear hfe
    have hn := HN.out
    have hf0 : (f == 0) = false := by simpa using hn
    clear hn
    go_enter Try.func55, Try.ntmps55
    go_wp2_with fail
    refine (C1.out _ hb0).mono ?_
    rintro e w1 ⟨rfl, hb1⟩
    have R1 := Lib.hid ((hb1.block _ (by simp)).trans (row_snd W _ _))
    have hbW1 := hb0.trans (hb1.mono hb0.size)
    clear hb1 hb0
    go_wp2_with (first | ((with_reducible refine wpList_store_row (o := ⟨none, _, _, _, _, _⟩) rfl 54 (.tmp 4) (.tmp 14) rfl (W.heap.size + 1) #[.slice none 0 0, .slice none 0 0] ?_ ?_ 54 _ R1.out ?_ ?_ (two_one _ _ _ _ _ _) ?_); rfl; rfl; exact sizeDisk; rfl))
    have hbf : Below W.heap.size W (w1.setRow (W.heap.size + 1) #[.slice none 0 0, .slice none 0 0]) := below_setRow hbW1 (by omega) _
    have HRF := setRow_heap w1 (W.heap.size + 1) _ #[.slice none 0 0, .slice none 0 0] _ _ R1.out
    exact bodyPost_ret (v := .tuple #[.agg #[.slice none 0 0, .slice none 0 0], .int .i64 f]) (run_results_pair rfl (W.heap.size + 1) rfl #[.slice none 0 0, .slice none 0 0] HRF _ Try.underlying54 rfl sizeDisk (.int .i64 f) rfl) rfl (Fell.bad HE.out HN.out hbf rfl)
set_option maxRecDepth 100000 in
set_option maxHeartbeats 1600000 in
theorem fallCrash_any (W : World) (x : Int) (pb : Nat) (A A' : Option Addr) (n c n' c' : Nat) (l : List (List UInt8)) (ws : List PutT) (hwx : (Lit.int .i64 x).wf = true) (hp : pb < W.heap.size) (hx : W.cell? ⟨pb, 0, none⟩ = some (.int .i64 x)) (h : SlR cSector W (lt W.heap.size) A n l) (h' : SlR cPut W (lt W.heap.size) A' n' ws) :
    Calls Try.prog 55 #[.agg #[.slice A n c, .slice A' n' c'], .func (.func 57) #[] #[.pointer (some ⟨pb, 0, none⟩)]] W (Fell (bitAt x) l ws W) := by
  have C1 := Lib.hid (fun w (hb : Below W.heap.size W w) => Check_any w A A' n c n' c' l ws ((h.below hb).up hb.size) ((h'.below hb).up hb.size))
  have hb0 : Below W.heap.size W ((W.alloc (.cells #[.slice A n c, .slice A' n' c'] 54)).alloc (.cells #[.slice none 0 0, .slice none 0 0] 54)) := ((Below.refl _ _).alloc (Nat.le_refl _) _).alloc (by simp) _
  have HL := Lib.hid h.1
  have H := Lib.hid h
  have H' := Lib.hid h'
  clear h h'
  by_cases hf : diskF l ws = 0
  · rw [hf] at C1
    have HF := Lib.hid hf
    have HALL := Lib.hid (diskF_all hf)
    have hsz := diskF_sizes hf
    have hn0 : 0 < n := by have := HL.out; omega
    have hn400 : n ≤ 400 := by have := HL.out; omega
    have hn60 : n' ≤ 60 := by have := H'.out.1; omega
    clear hf hsz
    obtain ⟨i0, hi, hz0, hz1, hz2⟩ := info_parts infoSector
    go_enter Try.func55, Try.ntmps55
    go_wp2_with fail
    refine (C1.out _ hb0).mono ?_
    rintro e w1 ⟨rfl, hb1⟩
    have r0 := (hb1.block _ (by simp; omega)).trans (row_fst W _ _)
    have R1 := Lib.hid ((hb1.block _ (by simp)).trans (row_snd W _ _))
    have k0 : w1.cell? ⟨W.heap.size, 0, none⟩ = some (.slice A n c) := by rw [cell_of_row _ _ _ _ _ _ r0]; rfl
    have k1 : w1.cell? ⟨W.heap.size, 1, none⟩ = some (.slice A' n' c') := by rw [cell_of_row _ _ _ _ _ _ r0]; rfl
    have hW1 : W.heap.size + 2 ≤ w1.heap.size := by have := hb1.size; simpa using this
    have hbW1 := hb0.trans (hb1.mono hb0.size)
    clear hb1 hb0 r0
    have hba : Below w1.heap.size w1 (w1.alloc (.cells #[] 76)) := (Below.refl _ _).alloc (Nat.le_refl _) _
    have k0 := cell_keep k0 hba
    have k1 := cell_keep k1 hba
    have hbW2 := hbW1.trans (hba.mono hbW1.size)
    have HS := Lib.hid ((H.out.below hbW2))
    obtain ⟨news, hsrc, hch⟩ := src_slr (P := Try.prog) (tx := 51) (cap := c) Try.underlying51 (one_arr 32 one_byte) HS.out
    have HSRC := Lib.hid hsrc
    have HCH := Lib.hid hch
    have HO := Lib.hid (show (w1.alloc (.cells #[] 76)).ownsRow w1.heap.size 76 32 (.slice (some ⟨w1.heap.size, 0, none⟩) 0 0) 0 [] from by
      have := World.ownsRow_lit (base := w1.heap.size) (e := 76) (size := 32) w1 #[] 0 (Nat.le_refl _) (by unfold maxLen; omega) rfl
      simpa using this)
    clear hsrc hch hba
    go_wp2_with (first | (at_builtin; refine wpList_app _ rfl (.tmp 16) (.tmp 18) 51 51 rfl w1.heap.size 76 i0 _ 32 32 Try.underlying51 hi hz0 hz1 hz2 rfl (by decide) _ _ _ rfl HO.out _ _ _ rfl HSRC.out (by unfold maxLen; omega) (by omega) (by simp) ?_; intro v2 w2 hown2 hg2 hat2; rw [Nat.zero_add, List.nil_append] at hown2; obtain ⟨g, cap, hv2, hbg, hgl, hnc, hcm, hsec⟩ := rows_own hown2 HL.out.symm hn0 (chunks_any HCH.out); subst hv2; have hb2 : Below w1.heap.size (w1.alloc (.cells #[] 76)) w2 := (Below.refl _ _).grown hg2 (by simp) (fun q hq => by cases hq; exact Nat.le_refl _); have hba := (Below.refl w2.heap.size w2).alloc (Nat.le_refl _) (.cells #[.slice (some ⟨g, 0, none⟩) n cap, .slice none 0 0] 54); have k0 := cell_keep (cell_up k0 hb2 (by omega)) hba; have k1 := cell_keep (cell_up k1 hb2 (by omega)) hba))
    have q0 : (w2.alloc (.cells #[.slice (some ⟨g, 0, none⟩) n cap, .slice none 0 0] 54)).cell? ⟨w2.heap.size, 0, none⟩ = some (.slice (some ⟨g, 0, none⟩) n cap) := by rw [cell_of_row _ _ _ _ _ _ (heap_alloc_new w2 _)]; rfl
    have q1 : (w2.alloc (.cells #[.slice (some ⟨g, 0, none⟩) n cap, .slice none 0 0] 54)).cell? ⟨w2.heap.size, 1, none⟩ = some (.slice none 0 0) := by rw [cell_of_row _ _ _ _ _ _ (heap_alloc_new w2 _)]; rfl
    have hsA : (w2.alloc (.cells #[.slice (some ⟨g, 0, none⟩) n cap, .slice none 0 0] 54)).heap.size = w2.heap.size + 1 := by simp
    have hsecA := hsec.alloc (.cells #[.slice (some ⟨g, 0, none⟩) n cap, .slice none 0 0] 54)
    have hbel1 : Below w1.heap.size w1 (w2.alloc (.cells #[.slice (some ⟨g, 0, none⟩) n cap, .slice none 0 0] 54)) := (((Below.refl _ _).alloc (Nat.le_refl _) _).trans hb2).trans (hba.mono (by have := hb2.size; simp at this; omega))
    have hqg : w1.heap.size ≤ w2.heap.size := by have := hb2.size; simp at this; omega
    clear k0 k1 hba hb2 hat2 hg2 hown2 HO HSRC HCH HS hbW2 hsec
    generalize w2.alloc (.cells #[.slice (some ⟨g, 0, none⟩) n cap, .slice none 0 0] 54) = w3 at *
    go_loopw [24] (fun i wr => ∃ k : Nat, k ≤ n' ∧ i = .int .i64 k ∧ Below w1.heap.size w1 wr ∧ w2.heap.size + 1 ≤ wr.heap.size ∧ Secs wr g (setAt (bitAt x) (ws.take k) l) ∧ wr.cell? ⟨w2.heap.size, 0, none⟩ = some (.slice (some ⟨g, 0, none⟩) n cap) ∧ wr.cell? ⟨w2.heap.size, 1, none⟩ = some (.slice none 0 0)) (fun i _ => n' - (intOf i).toNat)
    case atStart => exact ⟨0, Nat.zero_le _, rfl, hbel1, by omega, hsecA, q0, q1⟩
    case round =>
      clear hbel1 hsecA q0 q1 hsA
      obtain ⟨k, hk, rfl, hbel, hsz, hsec, q0, q1⟩ := hrel
      by_cases hlt : k < n'
      · obtain ⟨b', o', rfl, hb', p, cs', hx', hat', hcl', hr'⟩ := H'.out.elemAt hlt
        obtain ⟨sc, rfl, hsec', _⟩ := put_head hr'
        obtain ⟨rfl, hp32⟩ := sector_cells hsec'
        obtain ⟨hv0, hvn⟩ := HALL.out p (List.mem_of_getElem? hx')
        obtain ⟨a, ha⟩ := Int.eq_ofNat_of_zero_le hv0
        have han : a < n := by have := HL.out; omega
        have HSN := Lib.hid (setAt_snoc (f := (bitAt x)) (l := l) hx')
        have HO2 := Lib.hid (one_put _ _ _ _ hr')
        have HAT2 := Lib.hid (show wr.rangeAt b' (o' + k * 33) (.int .i64 p.1 :: encS p.2.1) from rangeAt_below hat' (hbW1.trans (hbel.mono hbW1.size)) hb')
        have HC2 := Lib.hid (show (Try.prog.info? 91).map (·.size) = some (Value.int .i64 p.1 :: encS p.2.1).length from by rw [hcl']; exact sizePut)
        have HZ2 := Lib.hid (show 33 = (Value.int .i64 p.1 :: encS p.2.1).toArray.size from by rw [List.size_toArray, hcl']; rfl)
        have HDL := Lib.hid (show (Try.prog.info? 76).map (·.size) = some (encS p.2.1).length from by rw [encS_length, hp32]; exact sizeSector)
        have HDA := Lib.hid (show (Try.prog.info? 76).map (·.size) = some (encS p.2.1).toArray.size from by rw [List.size_toArray]; exact HDL.out)
        have hrow2 := heap_alloc_new wr (.cells (Value.int .i64 p.1 :: encS p.2.1).toArray 91)
        have hc0 : (wr.alloc (.cells (Value.int .i64 p.1 :: encS p.2.1).toArray 91)).cell? ⟨wr.heap.size, 0, none⟩ = some (.int .i64 p.1) := by rw [cell_of_row _ _ _ _ _ _ hrow2]; rfl
        have HT := Lib.hid (show (wr.alloc (.cells (Value.int .i64 p.1 :: encS p.2.1).toArray 91)).rangeAt wr.heap.size 1 (encS p.2.1) from row_tail hrow2)
        have hba := (Below.refl wr.heap.size wr).alloc (Nat.le_refl _) (.cells (Value.int .i64 p.1 :: encS p.2.1).toArray 91)
        have q0 := cell_keep q0 hba
        have q1 := cell_keep q1 hba
        have hsecA := hsec.alloc (.cells (Value.int .i64 p.1 :: encS p.2.1).toArray 91)
        have HTH := Lib.hid (show (wr.alloc (.cells (Value.int .i64 p.1 :: encS p.2.1).toArray 91)).there g (a * 32) (encS p.2.1).toArray.size from by rw [List.size_toArray, encS_length, hp32]; exact hsecA.thereAt (by rw [setAt_length, HL.out]; exact han))
        have hbA : Below w1.heap.size w1 (wr.alloc (.cells (Value.int .i64 p.1 :: encS p.2.1).toArray 91)) := hbel.alloc hbel.size _
        have hsA : w2.heap.size + 1 ≤ (wr.alloc (.cells (Value.int .i64 p.1 :: encS p.2.1).toArray 91)).heap.size := by simp; omega
        rw [ha] at HO2 HAT2 HC2 HZ2 hrow2 hc0 HT hba q0 q1 hsecA HTH hbA hsA HSN
        have HSA := Lib.hid hsecA
        clear hat' hr' hx' hcl' hsec' hrow2 hsec ha hv0 hvn hba hsecA
        have hxp := cell_up hx (hbW1.trans (hbA.mono hbW1.size)) hp
        have hk63 : k < 63 := by omega
        by_cases hfk : bitAt x k = true
        · have CK := Lib.hid (fun w (h : World.cell? w ⟨pb, 0, none⟩ = some (.int .i64 x)) => crash1_any w k x pb hwx hk63 h)
          rw [hfk] at CK
          have HK := Lib.hid hfk
          clear hfk
          go_wp2_with (first | ((with_reducible refine wpList_load_mid (op := ⟨some 28, _, _, _, _, _⟩) rfl 91 (.tmp 27) rfl b' (o' + k * 33) ?_ (.int .i64 (a : Int) :: encS p.2.1) _ HAT2.out Try.underlying91 rfl HC2.out ?_); rfl) | ((with_reducible refine wpList_store_new (o := ⟨none, _, _, _, _, _⟩) rfl 91 (.tmp 9) (.tmp 28) rfl _ (.int .i64 (a : Int) :: encS p.2.1).toArray ?_ ?_ ?_ HZ2.out ?_ ?_); rfl; rfl; (simpa using HC2.out); (simpa using HO2.out)) | (go_at_call 57; (with_reducible refine (CK.out _ hxp).mono ?_); rintro e w5 ⟨rfl, rfl⟩) | ((with_reducible refine wpList_load_mid (op := ⟨some 37, _, _, _, _, _⟩) rfl 76 (.tmp 36) rfl wr.heap.size 1 ?_ (encS p.2.1) _ HT.out Try.underlying76 rfl HDL.out ?_); rfl) | ((with_reducible refine wpList_store_mid (op := ⟨none, _, _, _, _, _⟩) rfl 76 (.tmp 38) (.tmp 37) rfl g (a * 32) (encS p.2.1).toArray ?_ ?_ HTH.out HDA.out (encS_one _) ?_); rfl; rfl))
          go_roundw
          case rel =>
            refine ⟨k + 1, by omega, by go_num, below_cells hbg _ _ hbA, by rw [size_cells]; exact hsA, ?_, ?_, ?_⟩
            · rw [HSN.out, if_pos HK.out, Int.toNat_natCast]
              exact HSA.out.set (by rw [setAt_length, HL.out]; exact han) hp32
            · rw [World.cell?_setCells_out g _ _ _ _ (fun hb _ => absurd hb (by show ¬ w2.heap.size = g; omega))]
              exact q0
            · rw [World.cell?_setCells_out g _ _ _ _ (fun hb _ => absurd hb (by show ¬ w2.heap.size = g; omega))]
              exact q1
          case measure => simp [intOf]; omega
        · have CK := Lib.hid (fun w (h : World.cell? w ⟨pb, 0, none⟩ = some (.int .i64 x)) => crash1_any w k x pb hwx hk63 h)
          rw [show bitAt x k = false by simpa using hfk] at CK
          go_wp2_with (first | ((with_reducible refine wpList_load_mid (op := ⟨some 28, _, _, _, _, _⟩) rfl 91 (.tmp 27) rfl b' (o' + k * 33) ?_ (.int .i64 (a : Int) :: encS p.2.1) _ HAT2.out Try.underlying91 rfl HC2.out ?_); rfl) | ((with_reducible refine wpList_store_new (o := ⟨none, _, _, _, _, _⟩) rfl 91 (.tmp 9) (.tmp 28) rfl _ (.int .i64 (a : Int) :: encS p.2.1).toArray ?_ ?_ ?_ HZ2.out ?_ ?_); rfl; rfl; (simpa using HC2.out); (simpa using HO2.out)) | (go_at_call 57; (with_reducible refine (CK.out _ hxp).mono ?_); rintro e w5 ⟨rfl, rfl⟩))
          go_roundw
          case rel =>
            refine ⟨k + 1, by omega, by go_num, hbA, hsA, ?_, q0, q1⟩
            rw [HSN.out, if_neg hfk]
            exact HSA.out
          case measure => simp [intOf]; omega
      · obtain rfl : k = n' := by omega
        have he : ws.take k = ws := List.take_of_length_le (by have := H'.out.1; omega)
        rw [he] at hsec
        have R2 := Lib.hid ((hbel.block (W.heap.size + 1) (by omega)).trans R1.out)
        have HSEC := Lib.hid hsec
        clear hsec he
        go_wp2_with (first | ((with_reducible refine wpList_store_row (o := ⟨none, _, _, _, _, _⟩) rfl 54 (.tmp 4) (.tmp 40) rfl (W.heap.size + 1) #[.slice (some ⟨g, 0, none⟩) n cap, .slice none 0 0] ?_ ?_ 54 _ R2.out ?_ ?_ (two_one _ _ _ _ _ _) ?_); rfl; rfl; exact sizeDisk; rfl))
        have hbf : Below W.heap.size W (wr.setRow (W.heap.size + 1) #[.slice (some ⟨g, 0, none⟩) n cap, .slice none 0 0]) := below_setRow (hbW1.trans (hbel.mono hbW1.size)) (by omega) _
        have HRF := setRow_heap wr (W.heap.size + 1) _ #[.slice (some ⟨g, 0, none⟩) n cap, .slice none 0 0] _ _ R2.out
        exact bodyPost_ret (v := .tuple #[.agg #[.slice (some ⟨g, 0, none⟩) n cap, .slice none 0 0], .int .i64 0]) (run_results_pair rfl (W.heap.size + 1) rfl #[.slice (some ⟨g, 0, none⟩) n cap, .slice none 0 0] HRF _ Try.underlying54 rfl sizeDisk (.int .i64 0) rfl) rfl
          (Fell.good HF.out hbf HL.out.symm (by omega) (by rw [setRow_size]; omega) (HSEC.out.other (setRow_other wr (W.heap.size + 1) g _ (by omega))) rfl)
  · have HF := Lib.hid (show diskF l ws = diskF l ws from rfl)
    have HN := Lib.hid hf
    clear hf
    generalize hfe : diskF l ws = f at C1 HF HN
    have HE := Lib.hid hfe
    clear hfe
    have hn := HN.out
    have hf0 : (f == 0) = false := by simpa using hn
    clear hn
    go_enter Try.func55, Try.ntmps55
    go_wp2_with fail
    refine (C1.out _ hb0).mono ?_
    rintro e w1 ⟨rfl, hb1⟩
    have R1 := Lib.hid ((hb1.block _ (by simp)).trans (row_snd W _ _))
    have hbW1 := hb0.trans (hb1.mono hb0.size)
    clear hb1 hb0
    go_wp2_with (first | ((with_reducible refine wpList_store_row (o := ⟨none, _, _, _, _, _⟩) rfl 54 (.tmp 4) (.tmp 14) rfl (W.heap.size + 1) #[.slice none 0 0, .slice none 0 0] ?_ ?_ 54 _ R1.out ?_ ?_ (two_one _ _ _ _ _ _) ?_); rfl; rfl; exact sizeDisk; rfl))
    have hbf : Below W.heap.size W (w1.setRow (W.heap.size + 1) #[.slice none 0 0, .slice none 0 0]) := below_setRow hbW1 (by omega) _
    have HRF := setRow_heap w1 (W.heap.size + 1) _ #[.slice none 0 0, .slice none 0 0] _ _ R1.out
    exact bodyPost_ret (v := .tuple #[.agg #[.slice none 0 0, .slice none 0 0], .int .i64 f]) (run_results_pair rfl (W.heap.size + 1) rfl #[.slice none 0 0, .slice none 0 0] HRF _ Try.underlying54 rfl sizeDisk (.int .i64 f) rfl) rfl (Fell.bad HE.out HN.out hbf rfl)
end Go.Proofs.Ytbpibblidokhfaa
