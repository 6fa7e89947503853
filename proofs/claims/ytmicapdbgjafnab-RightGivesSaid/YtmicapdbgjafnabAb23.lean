/- One run in the order of the text serves every order. No condition. -/
import Derived.Test.YtmicapdbgjafnabAb22
namespace Go.Proofs.Ytmicapdbgjafnab.Ab
open Go Go.RowKit

abbrev FP := List Nat × List Nat

section
variable {P : Program} {T : Nat → Option TI} {X : Ctx} {nt : Nat} {ops : Array Oper}

structure Sd (P : Program) (T : Nat → Option TI) (nt : Nat) (ops : Array Oper) (fp : FP) (o : Oper) (s : St) (d : D) (us : Upds) : Prop where
  eff : Eff1 P T nt ops o s d us
  rd : ∀ x ∈ o.op.operands, ∀ k ∈ idsD (s.ev x), inB fp.1 k = true
  rdD : inB fp.1 (dstId o.dst) = true
  wr : ∀ u ∈ us, inB fp.2 u.1 = true

def apartL (l r : List Nat) : Bool :=
  match l with
  | [] => true
  | k :: l => !inB r k && apartL l r
theorem apartL_ok {l r : List Nat} (h : apartL l r = true) : ∀ k, inB l k = true → inB r k = false := by
  induction l with
  | nil => intro k hk; cases hk
  | cons a l ih =>
    simp only [apartL, Bool.and_eq_true, Bool.not_eq_true'] at h
    intro k hk
    simp only [inB, Bool.or_eq_true] at hk
    rcases hk with hk | hk
    · obtain rfl := Nat.eq_of_beq_eq_true hk; exact h.1
    · exact ih h.2 k hk

def indepB (ops : Array Oper) (fi fj : FP) (oi oj : Oper) : Bool :=
  oi.apart ops oj && apartL fi.2 fj.1 && apartL fi.2 fj.2 && apartL fj.2 fi.1

theorem appU_other : ∀ (us : Upds) (m : Mem) (k : Nat), (∀ u ∈ us, u.1 ≠ k) → appU m us k = m k
  | [], m, k, _ => rfl
  | u :: us, m, k, h => by rw [appU_cons, appU_other us _ k (fun v hv => h v (by simp [hv])), upd_ne _ _ (Ne.symm (h u (by simp)))]
theorem appU_val : ∀ (us : Upds) (m m' : Mem) (k : Nat), (∃ u ∈ us, u.1 = k) → appU m us k = appU m' us k
  | [], m, m', k, h => by obtain ⟨u, hu, _⟩ := h; cases hu
  | u :: us, m, m', k, h => by
    rw [appU_cons, appU_cons]
    by_cases hk : ∃ v ∈ us, v.1 = k
    · exact appU_val us _ _ k hk
    · have hn : ∀ v ∈ us, v.1 ≠ k := fun v hv e => hk ⟨v, hv, e⟩
      rw [appU_other us _ k hn, appU_other us _ k hn]
      obtain ⟨v, hv, e⟩ := h
      rcases List.mem_cons.1 hv with rfl | hv
      · rw [← e, upd_same, upd_same]
      · exact absurd e (hn v hv)
theorem appU_comm (m : Mem) (us vs : Upds) (h : ∀ u ∈ us, ∀ v ∈ vs, u.1 ≠ v.1) : appU (appU m us) vs = appU (appU m vs) us := by
  funext k
  by_cases h1 : ∃ u ∈ us, u.1 = k
  · obtain ⟨u, hu, rfl⟩ := h1
    have hv : ∀ v ∈ vs, v.1 ≠ u.1 := fun v hv e => h u hu v hv e.symm
    rw [appU_other vs _ _ hv]
    exact appU_val us _ _ _ ⟨u, hu, rfl⟩
  · have hu : ∀ u ∈ us, u.1 ≠ k := fun u hu e => h1 ⟨u, hu, e⟩
    rw [appU_other us (appU m vs) k hu]
    by_cases h2 : ∃ v ∈ vs, v.1 = k
    · exact appU_val vs _ _ k h2
    · have hv : ∀ v ∈ vs, v.1 ≠ k := fun v hv e => h2 ⟨v, hv, e⟩
      rw [appU_other vs _ k hv, appU_other vs _ k hv, appU_other us _ k hu]

theorem upd_comm {α : Type} (f : Nat → α) {i j : Nat} (x y : α) (h : i ≠ j) : upd (upd f i x) j y = upd (upd f j y) i x := by
  funext k
  by_cases h1 : k = i
  · subst h1
    rw [upd_ne _ _ h, upd_same, upd_same]
  · rw [upd_ne (upd f j y) _ h1]
    by_cases h2 : k = j
    · subst h2; rw [upd_same, upd_same]
    · rw [upd_ne _ _ h2, upd_ne _ _ h2, upd_ne _ _ h1]

theorem app_tm {s : St} {dst : Option Tmp} {d : D} {us : Upds} {t : Nat} (h : ∀ k, dst = some k → k ≠ t) : (s.app dst d us).tm t = s.tm t := by
  cases dst with
  | none => rfl
  | some k => exact upd_ne _ _ (Ne.symm (h k rfl))

theorem same_of {fi fj : FP} {oi oj : Oper} {s : St} {di : D} {usi : Upds} (h1 : ∀ d, oi.dst = some d → d ∉ oj.looksAt ops) (h2 : apartL fi.2 fj.1 = true) (hw : ∀ u ∈ usi, inB fi.2 u.1 = true)
    (hr : ∀ x ∈ oj.op.operands, ∀ k ∈ idsD (s.ev x), inB fj.1 k = true) (hd : inB fj.1 (dstId oj.dst) = true) : Same ops oj s (s.app oi.dst di usi) := by
  have hne : ∀ k, inB fj.1 k = true → ∀ u ∈ usi, u.1 ≠ k := fun k hk u hu e => by
    have := apartL_ok h2 u.1 (hw u hu)
    rw [e, hk] at this
    cases this
  refine ⟨fun t ht => (app_tm fun k hk e => h1 k hk (e ▸ ht)).symm, fun x hx i hi => (appU_other usi s.mem i (hne i (hr x hx i hi))).symm, (appU_other usi s.mem _ (hne _ hd)).symm⟩

theorem ids_same {oi oj : Oper} {s : St} {di : D} {usi : Upds} (h1 : ∀ d, oi.dst = some d → d ∉ oj.looksAt ops) : ∀ x ∈ oj.op.operands, (s.app oi.dst di usi).ev x = s.ev x := fun x hx => by
  cases x with
  | tmp t => exact app_tm fun k hk e => h1 k hk (e ▸ List.mem_append_left _ (List.mem_filterMap.2 ⟨.tmp t, by simpa using hx, rfl⟩))
  | _ => rfl

theorem Sd.swap {fi fj : FP} {oi oj : Oper} (hin : indepB ops fi fj oi oj = true) {s : St} {di dj : D} {usi usj : Upds} (hi : Sd P T nt ops fi oi s di usi) (hj : Sd P T nt ops fj oj (s.app oi.dst di usi) dj usj) :
    Sd P T nt ops fj oj s dj usj ∧ Sd P T nt ops fi oi (s.app oj.dst dj usj) di usi ∧ (s.app oi.dst di usi).app oj.dst dj usj = (s.app oj.dst dj usj).app oi.dst di usi := by
  simp only [indepB, Bool.and_eq_true] at hin
  obtain ⟨⟨⟨hap, h12⟩, h22⟩, h21⟩ := hin
  obtain ⟨a1, a2, a3⟩ := Oper.apart_spec hap
  have hev := ids_same (s := s) (di := di) (usi := usi) a1
  have hrd : ∀ x ∈ oj.op.operands, ∀ k ∈ idsD (s.ev x), inB fj.1 k = true := fun x hx k hk => hj.rd x hx k (by rw [hev x hx]; exact hk)
  have sj : Same ops oj s (s.app oi.dst di usi) := same_of a1 h12 hi.wr hrd hj.rdD
  have ej : Eff1 P T nt ops oj s dj usj := hj.eff.congr ⟨fun t ht => (sj.tm t ht).symm, fun x hx i hxi => by
    rw [hev x hx] at hxi
    exact (sj.mem x hx i hxi).symm, sj.dst.symm⟩
  have si : Same ops oi s (s.app oj.dst dj usj) := same_of a3 h21 hj.wr hi.rd hi.rdD
  have hev' := ids_same (s := s) (di := dj) (usi := usj) a3
  refine ⟨⟨ej, hrd, hj.rdD, hj.wr⟩, ⟨hi.eff.congr si, fun x hx k hk => hi.rd x hx k (by rw [hev' x hx] at hk; exact hk), hi.rdD, hi.wr⟩, ?_⟩
  have hm : appU (appU s.mem usi) usj = appU (appU s.mem usj) usi := appU_comm _ _ _ fun u hu v hv e => by
    have := apartL_ok h22 u.1 (hi.wr u hu)
    rw [e, hj.wr v hv] at this
    cases this
  unfold St.app
  congr 1
  cases hdi : oi.dst with
  | none => rfl
  | some a => cases hdj : oj.dst with
    | none => rfl
    | some b => exact upd_comm _ _ _ fun e => a2 a hdi (by rw [hdj, e])

/-- every order that may be picked from here on leads to sf -/
def AnyA (P : Program) (T : Nat → Option TI) (nt : Nat) (md : Region.Mode) (ops : Array Oper) (fps : List FP) (sf : St) : Nat → Array Bool → St → Prop
  | 0, listed, s => Region.ready md ops listed = [] ∧ s = sf
  | fuel + 1, listed, s => (Region.ready md ops listed = [] → s = sf) ∧
    ∀ i ∈ Region.ready md ops listed, ∃ o d us, ops[i]? = some o ∧ Sd P T nt ops (fps.getD i ([], [])) o s d us ∧ AnyA P T nt md ops fps sf fuel (listed.setIfInBounds i true) (s.app o.dst d us)

theorem anyA_first {md : Region.Mode} {fps : List FP} {sf : St} {i : Nat} {oi : Oper} (hi : ops[i]? = some oi) :
    ∀ (fuel : Nat) (listed : Array Bool) (s : St) {d : D} {us : Upds},
      (∀ j oj, ops[j]? = some oj → j ≠ i → listed.getD j true = false → (∀ e ∈ oj.after, Region.binds md e = true → e.on ≠ i) → indepB ops (fps.getD i ([], [])) (fps.getD j ([], [])) oi oj = true) →
      i ∈ Region.ready md ops listed → Sd P T nt ops (fps.getD i ([], [])) oi s d us →
      AnyA P T nt md ops fps sf fuel (listed.setIfInBounds i true) (s.app oi.dst d us) → AnyA P T nt md ops fps sf (fuel + 1) listed s := by
  intro fuel
  induction fuel with
  | zero =>
    intro listed s d us _ hr hS H
    refine ⟨fun h => (by rw [h] at hr; cases hr), fun j hj => ?_⟩
    by_cases hji : j = i
    · subst hji; exact ⟨oi, d, us, hi, hS, H⟩
    · have := ready_mono hj hji
      rw [H.1] at this
      cases this
  | succ fuel ih =>
    intro listed s d us hfree hr hS H
    refine ⟨fun h => (by rw [h] at hr; cases hr), fun j hj => ?_⟩
    by_cases hji : j = i
    · subst hji; exact ⟨oi, d, us, hi, hS, H⟩
    · obtain ⟨oj, dj, usj, hoj, hSj, HH⟩ := H.2 j (ready_mono hj hji)
      obtain ⟨hjun, oj', hoj', hall⟩ := mem_ready.1 hj
      rw [hoj] at hoj'
      cases hoj'
      have hnot : ∀ e ∈ oj.after, Region.binds md e = true → e.on ≠ i := fun e he hb heq => by
        have h1 := hall e he hb
        have h0 := (mem_ready.1 hr).1
        rw [heq] at h1
        rcases Nat.lt_or_ge i listed.size with h' | h'
        · simp [h'] at h0 h1; rw [h0] at h1; cases h1
        · simp [Array.getElem?_eq_none h'] at h1
      obtain ⟨k1, k2, k3⟩ := Sd.swap (hfree j oj hoj hji hjun hnot) hS hSj
      have hfree' : ∀ k ok, ops[k]? = some ok → k ≠ i → (listed.setIfInBounds j true).getD k true = false →
          (∀ e ∈ ok.after, Region.binds md e = true → e.on ≠ i) → indepB ops (fps.getD i ([], [])) (fps.getD k ([], [])) oi ok = true := fun k ok hk hki hun hno => by
        refine hfree k ok hk hki ?_ hno
        by_cases hjk : j = k
        · subst hjk; exact hjun
        · rw [getD_set_ne true hjk] at hun; exact hun
      refine ⟨oj, dj, usj, hoj, k1, ih (listed.setIfInBounds j true) _ hfree' (ready_mono hr (Ne.symm hji)) k2 ?_⟩
      rw [Array.setIfInBounds_comm _ _ hji, ← k3]
      exact HH

/-- operation k is apart from all that have not come up and do not wait for it -/
def freeX (md : Region.Mode) (ops : Array Oper) (fps : List FP) (listed : Array Bool) (k : Nat) : Bool :=
  (List.range ops.size).all fun j =>
    match ops[j]?, ops[k]? with
    | some oj, some ok => Nat.beq j k || listed.getD j true || oj.after.any (fun e => Region.binds md e && Nat.beq e.on k) || indepB ops (fps.getD k ([], [])) (fps.getD j ([], [])) ok oj
    | _, _ => true
def lexX (md : Region.Mode) (ops : Array Oper) (fps : List FP) : Nat → Nat → Array Bool → Bool
  | 0, _, listed => (Region.ready md ops listed).isEmpty
  | fuel + 1, k, listed => (Region.ready md ops listed).contains k && freeX md ops fps listed k && lexX md ops fps fuel (k + 1) (listed.setIfInBounds k true)

theorem freeX_spec {md : Region.Mode} {fps : List FP} {listed : Array Bool} {k : Nat} {ok : Oper} (hk : ops[k]? = some ok) (h : freeX md ops fps listed k = true) : ∀ j oj, ops[j]? = some oj → j ≠ k → listed.getD j true = false → (∀ e ∈ oj.after, Region.binds md e = true → e.on ≠ k) →
    indepB ops (fps.getD k ([], [])) (fps.getD j ([], [])) ok oj = true := by
  intro j oj hj hjk hun hno
  have := List.all_eq_true.1 h j (List.mem_range.2 (Array.getElem?_eq_some_iff.1 hj).1)
  rw [hj, hk] at this
  simp only [Bool.or_eq_true] at this
  rcases this with ((h1 | h1) | h1) | h1
  · exact absurd (Nat.eq_of_beq_eq_true h1) hjk
  · rw [hun] at h1; cases h1
  · rw [Array.any_eq_true'] at h1
    obtain ⟨e, he, hb⟩ := h1
    simp only [Bool.and_eq_true] at hb
    exact absurd (Nat.eq_of_beq_eq_true hb.2) (hno e he hb.1)
  · exact h1

/-- the run in the order of the text, with what each operation reads and writes -/
inductive LexD (P : Program) (T : Nat → Option TI) (nt : Nat) (ops : Array Oper) : List Oper → St → List FP → St → Prop
  | nil (s : St) : LexD P T nt ops [] s [] s
  | cons {o : Oper} {r : List Oper} {s s2 : St} {fp : FP} {fps : List FP} {d : D} {us : Upds} (h : Sd P T nt ops fp o s d us) (k : LexD P T nt ops r (s.app o.dst d us) fps s2) : LexD P T nt ops (o :: r) s (fp :: fps) s2

theorem anyA_lex {md : Region.Mode} {fps : List FP} {sf : St} : ∀ (l : List Oper) (k : Nat) (listed : Array Bool) (s : St) (fl : List FP), (∀ j, l[j]? = ops[k + j]?) → (∀ j, fl[j]? = fps[k + j]?) → LexD P T nt ops l s fl sf →
    lexX md ops fps l.length k listed = true → AnyA P T nt md ops fps sf l.length listed s
  | [], k, listed, s, fl, _, _, h, hB => by
    cases h
    exact ⟨by simpa [lexX] using hB, rfl⟩
  | o :: l, k, listed, s, fl, hl, hf, h, hB => by
    cases h with
    | cons hS hk =>
      rename_i fp fps' d us
      have h0 : ops[k]? = some o := by simpa using (hl 0).symm
      have hfp : fps.getD k ([], []) = fp := by
        have : fps[k]? = some fp := by simpa using (hf 0).symm
        rw [List.getD_eq_getElem?_getD, this]; rfl
      simp only [List.length_cons, lexX, Bool.and_eq_true] at hB
      obtain ⟨⟨hr, hfree⟩, hB'⟩ := hB
      exact anyA_first h0 l.length listed s (freeX_spec h0 hfree) (by simpa using hr) (by rw [hfp]; exact hS)
        (anyA_lex l (k + 1) _ _ fps' (fun j => by have := hl (j + 1); simpa [Nat.add_assoc, Nat.add_comm 1 j] using this) (fun j => by have := hf (j + 1); simpa [Nat.add_assoc, Nat.add_comm 1 j] using this) hk hB')

theorem wpAny_of_A (hT : TOk P T) (hnt : X.nt = nt) {md : Region.Mode} {fps : List FP} {sf : St} {Q : Exit → Act → World → Prop} (hQ : ∀ a w, R X sf a w → Q .normal a w) : ∀ (fuel : Nat) (listed : Array Bool) (s : St) (a : Act) (w : World), R X s a w →
    AnyA P T nt md ops fps sf fuel listed s → wpAny P md ops Q fuel listed a w
  | 0, _, s, a, w, hR, h => ⟨h.1, hQ a w (by rw [← h.2]; exact hR)⟩
  | fuel + 1, listed, s, a, w, hR, h => ⟨fun h0 => hQ a w (by rw [← h.1 h0]; exact hR), fun i hi => by
    obtain ⟨o, d, us, ho, hS, hA⟩ := h.2 i hi
    have := hS.eff.sound hT hnt Q a w hR
    unfold wpOp
    rw [ho]
    simp only
    split
    · rename_i hw
      rw [if_pos hw] at this
      exact .inl (Oper.wp_mono (fun a w hr => wpAny_of_A hT hnt hQ fuel _ _ a w hr hA) this)
    · rename_i hw
      rw [if_neg hw] at this
      exact wpAny_of_A hT hnt hQ fuel _ _ _ _ this hA⟩

theorem tr_draw (hT : TOk P T) (hnt : X.nt = nt) (hm : P.follows .mixedOrders = true) {id : Nat} {s sf : St} {fps : List FP} {Q : Exit → St → Prop} (h : LexD P T nt ops ops.toList s fps sf)
    (hB : lexX .any ops fps ops.size 0 (Array.replicate ops.size false) = true) (hQ : Q .normal sf) : Tr P X (.region id ops true) s Q := by
  intro a w ⟨μ, hM, hsz, hdf, hr⟩
  refine wp_region_any hm ?_
  obtain ⟨h1, h2⟩ := hM.same (w' := { w with drawn := w.drawn + 1 }) rfl rfl rfl rfl
  have hR : R X s a { w with drawn := w.drawn + 1 } := ⟨μ, h1, hsz, hdf, fun t => (hr t).kept h2⟩
  have := anyA_lex (P := P) (T := T) (nt := nt) (md := .any) (fps := fps) ops.toList 0 (Array.replicate ops.size false) s fps (by simp) (by simp) h (by simpa using hB)
  exact wpAny_of_A hT hnt (fun a w hR => ⟨sf, hQ, hR⟩) _ _ _ a _ hR (by simpa using this)
end
end Go.Proofs.Ytmicapdbgjafnab.Ab
