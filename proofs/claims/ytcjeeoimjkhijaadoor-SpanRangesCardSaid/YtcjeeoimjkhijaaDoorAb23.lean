/- One run in the order of the text serves every order. No condition. -/
import Derived.Test.YtcjeeoimjkhijaaDoorAb22
namespace Go.Proofs.YtcjeeoimjkhijaaDoor.Ab
open Go Go.RowKit

abbrev FP := List Nat × List Nat

section
variable {P : Program} {T : Nat → Option TI} {X : Ctx} {nt : Nat} {ops : Array Oper}

structure Sd (P : Program) (T : Nat → Option TI) (nt : Nat) (ops : Array Oper) (fp : FP) (o : Oper) (s : St) (d : D) (us : Upds) : Prop where
  eff : Eff1 P T nt ops o s d us
  rd : ∀ x ∈ rdO o.op, ∀ k ∈ idsD (s.ev x), inB fp.1 k = true
  rdD : inB fp.1 (dstId o.dst) = true
  wr : ∀ u ∈ us, inB fp.2 u.1 = true

def apartL (l r : List Nat) : Bool :=
  match l with
  | [] => true
  | k :: l => !inB r k && apartL l r
theorem apartL_ok {l r : List Nat} (h : apartL l r = true) : ∀ k, inB l k = true → inB r k = false := by
  induction l with
  | nil => intro k hk; cases hk
  | cons a l ih =>
    simp only [apartL, Bool.and_eq_true, Bool.not_eq_true'] at h
    intro k hk
    simp only [inB, Bool.or_eq_true] at hk
    rcases hk with hk | hk
    · obtain rfl := Nat.eq_of_beq_eq_true hk; exact h.1
    · exact ih h.2 k hk

def smallD : Option Tmp → Bool
  | none => true
  | some k => Nat.blt k 1000000
def indepB (ops : Array Oper) (fi fj : FP) (oi oj : Oper) : Bool :=
  oi.apart ops oj && apartL fi.2 fj.1 && apartL fi.2 fj.2 && apartL fj.2 fi.1 && smallD oi.dst && smallD oj.dst

theorem appU_other : ∀ (us : Upds) (m : Mem) (k : Nat), (∀ u ∈ us, u.1 ≠ k) → appU m us k = m k
  | [], m, k, _ => rfl
  | u :: us, m, k, h => by rw [appU_cons, appU_other us _ k (fun v hv => h v (by simp [hv])), upd_ne _ _ (Ne.symm (h u (by simp)))]
theorem appU_val : ∀ (us : Upds) (m m' : Mem) (k : Nat), (∃ u ∈ us, u.1 = k) → appU m us k = appU m' us k
  | [], m, m', k, h => by obtain ⟨u, hu, _⟩ := h; cases hu
  | u :: us, m, m', k, h => by
    rw [appU_cons, appU_cons]
    by_cases hk : ∃ v ∈ us, v.1 = k
    · exact appU_val us _ _ k hk
    · have hn : ∀ v ∈ us, v.1 ≠ k := fun v hv e => hk ⟨v, hv, e⟩
      rw [appU_other us _ k hn, appU_other us _ k hn]
      obtain ⟨v, hv, e⟩ := h
      rcases List.mem_cons.1 hv with rfl | hv
      · rw [← e, upd_same, upd_same]
      · exact absurd e (hn v hv)
theorem appU_comm (m : Mem) (us vs : Upds) (h : ∀ u ∈ us, ∀ v ∈ vs, u.1 ≠ v.1) : appU (appU m us) vs = appU (appU m vs) us := by
  funext k
  by_cases h1 : ∃ u ∈ us, u.1 = k
  · obtain ⟨u, hu, rfl⟩ := h1
    have hv : ∀ v ∈ vs, v.1 ≠ u.1 := fun v hv e => h u hu v hv e.symm
    rw [appU_other vs _ _ hv]
    exact appU_val us _ _ _ ⟨u, hu, rfl⟩
  · have hu : ∀ u ∈ us, u.1 ≠ k := fun u hu e => h1 ⟨u, hu, e⟩
    rw [appU_other us (appU m vs) k hu]
    by_cases h2 : ∃ v ∈ vs, v.1 = k
    · exact appU_val vs _ _ k h2
    · have hv : ∀ v ∈ vs, v.1 ≠ k := fun v hv e => h2 ⟨v, hv, e⟩
      rw [appU_other vs _ k hv, appU_other vs _ k hv, appU_other us _ k hu]

theorem upd_comm {α : Type} (f : Nat → α) {i j : Nat} (x y : α) (h : i ≠ j) : upd (upd f i x) j y = upd (upd f j y) i x := by
  funext k
  by_cases h1 : k = i
  · subst h1
    rw [upd_ne _ _ h, upd_same, upd_same]
  · rw [upd_ne (upd f j y) _ h1]
    by_cases h2 : k = j
    · subst h2; rw [upd_same, upd_same]
    · rw [upd_ne _ _ h2, upd_ne _ _ h2, upd_ne _ _ h1]

theorem app_tm {s : St} {dst : Option Tmp} {d : D} {us : Upds} {t : Nat} (h : ∀ k, dst = some k → k ≠ t) : (s.app dst d us).tm t = s.tm t := by
  cases dst with
  | none => rfl
  | some k => exact upd_ne _ _ (Ne.symm (h k rfl))

theorem app_glob {s : St} {dst : Option Tmp} {d : D} {us : Upds} (h : smallD dst = true) (g : Nat) : (s.app dst d us).tm (1000000 + g) = s.tm (1000000 + g) := by
  refine app_tm fun k hk e => ?_
  subst hk
  have h1 : k < 1000000 := Nat.blt_eq.mp h
  have h2 : 1000000 ≤ k := by
    have h3 : k = 1000000 + g := e
    rw [h3]
    exact Nat.le_add_right ..
  exact absurd h1 (Nat.not_lt.2 h2)
theorem same_of {fi fj : FP} {oi oj : Oper} {s : St} {di : D} {usi : Upds} (hsm : smallD oi.dst = true) (h1 : ∀ d, oi.dst = some d → d ∉ oj.looksAt ops) (h2 : apartL fi.2 fj.1 = true) (hw : ∀ u ∈ usi, inB fi.2 u.1 = true)
    (hr : ∀ x ∈ rdO oj.op, ∀ k ∈ idsD (s.ev x), inB fj.1 k = true) (hd : inB fj.1 (dstId oj.dst) = true) : Same ops oj s (s.app oi.dst di usi) := by
  have hne : ∀ k, inB fj.1 k = true → ∀ u ∈ usi, u.1 ≠ k := fun k hk u hu e => by
    have := apartL_ok h2 u.1 (hw u hu)
    rw [e, hk] at this
    cases this
  refine ⟨fun t ht => (app_tm fun k hk e => h1 k hk (e ▸ ht)).symm, fun x hx i hi => (appU_other usi s.mem i (hne i (hr x hx i hi))).symm, (appU_other usi s.mem _ (hne _ hd)).symm, fun g => (app_glob hsm g).symm⟩

theorem ids_same {oi oj : Oper} {s : St} {di : D} {usi : Upds} (hsm : smallD oi.dst = true) (h1 : ∀ d, oi.dst = some d → d ∉ oj.looksAt ops) : ∀ x ∈ oj.op.operands, (s.app oi.dst di usi).ev x = s.ev x := fun x hx => by
  cases x with
  | tmp t =>
    have := app_tm (s := s) (dst := oi.dst) (d := di) (us := usi) (t := t) fun k hk e => h1 k hk (e ▸ List.mem_append_left _ (List.mem_filterMap.2 ⟨.tmp t, by simpa using hx, rfl⟩))
    show (bif Nat.blt t 900000 then (s.app oi.dst di usi).tm t else .any) = bif Nat.blt t 900000 then s.tm t else .any
    rw [this]
  | global g => exact app_glob hsm g
  | _ => rfl

theorem Sd.swap {fi fj : FP} {oi oj : Oper} (hin : indepB ops fi fj oi oj = true) {s : St} {di dj : D} {usi usj : Upds} (hi : Sd P T nt ops fi oi s di usi) (hj : Sd P T nt ops fj oj (s.app oi.dst di usi) dj usj) :
    Sd P T nt ops fj oj s dj usj ∧ Sd P T nt ops fi oi (s.app oj.dst dj usj) di usi ∧ (s.app oi.dst di usi).app oj.dst dj usj = (s.app oj.dst dj usj).app oi.dst di usi := by
  simp only [indepB, Bool.and_eq_true] at hin
  obtain ⟨⟨⟨⟨⟨hap, h12⟩, h22⟩, h21⟩, hsi⟩, hsj⟩ := hin
  obtain ⟨a1, a2, a3⟩ := Oper.apart_spec hap
  have hev := ids_same (s := s) (di := di) (usi := usi) hsi a1
  have hrd : ∀ x ∈ rdO oj.op, ∀ k ∈ idsD (s.ev x), inB fj.1 k = true := fun x hx k hk => hj.rd x hx k (by rw [hev x (rdO_sub hx)]; exact hk)
  have sj : Same ops oj s (s.app oi.dst di usi) := same_of hsi a1 h12 hi.wr hrd hj.rdD
  have ej : Eff1 P T nt ops oj s dj usj := hj.eff.congr ⟨fun t ht => (sj.tm t ht).symm, fun x hx i hxi => by
    rw [hev x (rdO_sub hx)] at hxi
    exact (sj.mem x hx i hxi).symm, sj.dst.symm, fun g => (sj.glob g).symm⟩
  have si : Same ops oi s (s.app oj.dst dj usj) := same_of hsj a3 h21 hj.wr hi.rd hi.rdD
  have hev' := ids_same (s := s) (di := dj) (usi := usj) hsj a3
  refine ⟨⟨ej, hrd, hj.rdD, hj.wr⟩, ⟨hi.eff.congr si, fun x hx k hk => hi.rd x hx k (by rw [hev' x (rdO_sub hx)] at hk; exact hk), hi.rdD, hi.wr⟩, ?_⟩
  have hm : appU (appU s.mem usi) usj = appU (appU s.mem usj) usi := appU_comm _ _ _ fun u hu v hv e => by
    have := apartL_ok h22 u.1 (hi.wr u hu)
    rw [e, hj.wr v hv] at this
    cases this
  unfold St.app
  congr 1
  cases hdi : oi.dst with
  | none => rfl
  | some a => cases hdj : oj.dst with
    | none => rfl
    | some b => exact upd_comm _ _ _ fun e => a2 a hdi (by rw [hdj, e])

/-- every order that may be picked from here on leads to sf -/
def AnyA (P : Program) (T : Nat → Option TI) (nt : Nat) (md : Region.Mode) (ops : Array Oper) (fps : List FP) (sf : St) : Nat → Array Bool → St → Prop
  | 0, listed, s => Region.ready md ops listed = [] ∧ s = sf
  | fuel + 1, listed, s => (Region.ready md ops listed = [] → s = sf) ∧
    ∀ i ∈ Region.ready md ops listed, ∃ o d us, ops[i]? = some o ∧ Sd P T nt ops (fps.getD i ([], [])) o s d us ∧ AnyA P T nt md ops fps sf fuel (listed.setIfInBounds i true) (s.app o.dst d us)

/-- operation b cannot come up before operation i -/
def Waits (md : Region.Mode) (ops : Array Oper) (listed : Array Bool) (i : Nat) (B : List Nat) (b : Nat) : Prop :=
  listed.getD b true = false ∧ ∃ ob, ops[b]? = some ob ∧ ∃ e ∈ ob.after, Region.binds md e = true ∧ (e.on = i ∨ inB B e.on = true)
theorem anyA_first {md : Region.Mode} {fps : List FP} {sf : St} {i : Nat} {oi : Oper} (hi : ops[i]? = some oi) {B : List Nat} :
    ∀ (fuel : Nat) (listed : Array Bool) (s : St) {d : D} {us : Upds},
      (∀ b, inB B b = true → Waits md ops listed i B b) →
      (∀ j oj, ops[j]? = some oj → j ≠ i → listed.getD j true = false → inB B j = false → indepB ops (fps.getD i ([], [])) (fps.getD j ([], [])) oi oj = true) →
      i ∈ Region.ready md ops listed → Sd P T nt ops (fps.getD i ([], [])) oi s d us →
      AnyA P T nt md ops fps sf fuel (listed.setIfInBounds i true) (s.app oi.dst d us) → AnyA P T nt md ops fps sf (fuel + 1) listed s := by
  intro fuel
  induction fuel with
  | zero =>
    intro listed s d us _ _ hr hS H
    refine ⟨fun h => (by rw [h] at hr; cases hr), fun j hj => ?_⟩
    by_cases hji : j = i
    · subst hji; exact ⟨oi, d, us, hi, hS, H⟩
    · have := ready_mono hj hji
      rw [H.1] at this
      cases this
  | succ fuel ih =>
    intro listed s d us hw hfree hr hS H
    refine ⟨fun h => (by rw [h] at hr; cases hr), fun j hj => ?_⟩
    by_cases hji : j = i
    · subst hji; exact ⟨oi, d, us, hi, hS, H⟩
    · obtain ⟨oj, dj, usj, hoj, hSj, HH⟩ := H.2 j (ready_mono hj hji)
      obtain ⟨hjun, oj', hoj', hall⟩ := mem_ready.1 hj
      rw [hoj] at hoj'
      cases hoj'
      have hoff : ∀ k, listed.getD k true = false → ¬ listed[k]? = some true := fun k h0 h1 => by
        rw [Array.getD_eq_getD_getElem?, h1] at h0
        cases h0
      have hnot : inB B j = false := by
        cases hB : inB B j with
        | false => rfl
        | true =>
          obtain ⟨_, ob, hob, e, he, hb, h2⟩ := hw j hB
          rw [hoj] at hob
          cases hob
          have h1 := hall e he hb
          rcases h2 with h2 | h2
          · have h0 := (mem_ready.1 hr).1
            rw [h2] at h1
            exact absurd h1 (by
              rcases Nat.lt_or_ge i listed.size with h' | h'
              · simp [h'] at h0 ⊢; exact h0
              · simp [Array.getElem?_eq_none h'])
          · have h0 := (hw _ h2).1
            exact absurd h1 (by
              rcases Nat.lt_or_ge e.on listed.size with h' | h'
              · simp [h'] at h0 ⊢; exact h0
              · simp [Array.getElem?_eq_none h'])
      obtain ⟨k1, k2, k3⟩ := Sd.swap (hfree j oj hoj hji hjun hnot) hS hSj
      have hw' : ∀ b, inB B b = true → Waits md ops (listed.setIfInBounds j true) i B b := fun b hb => by
        obtain ⟨w1, w2⟩ := hw b hb
        refine ⟨?_, w2⟩
        by_cases hjb : j = b
        · subst hjb; rw [hnot] at hb; cases hb
        · rw [getD_set_ne true hjb]; exact w1
      have hfree' : ∀ k ok, ops[k]? = some ok → k ≠ i → (listed.setIfInBounds j true).getD k true = false →
          inB B k = false → indepB ops (fps.getD i ([], [])) (fps.getD k ([], [])) oi ok = true := fun k ok hk hki hun hno => by
        refine hfree k ok hk hki ?_ hno
        by_cases hjk : j = k
        · subst hjk; exact hjun
        · rw [getD_set_ne true hjk] at hun; exact hun
      refine ⟨oj, dj, usj, hoj, k1, ih (listed.setIfInBounds j true) _ hw' hfree' (ready_mono hr (Ne.symm hji)) k2 ?_⟩
      rw [Array.setIfInBounds_comm _ _ hji, ← k3]
      exact HH

/-- what waits for operation k, straight or through another -/
def blkL (md : Region.Mode) (ops : Array Oper) (listed : Array Bool) (k : Nat) : List Nat → List Nat → List Nat
  | [], B => B
  | j :: r, B =>
    match ops[j]? with
    | some oj => bif !listed.getD j true && oj.after.any (fun e => Region.binds md e && (Nat.beq e.on k || inB B e.on)) then blkL md ops listed k r (j :: B) else blkL md ops listed k r B
    | none => blkL md ops listed k r B
theorem Waits.mono {md : Region.Mode} {listed : Array Bool} {i b : Nat} {B B' : List Nat} (h : ∀ x, inB B x = true → inB B' x = true) (hw : Waits md ops listed i B b) : Waits md ops listed i B' b := by
  obtain ⟨w1, ob, w2, e, w3, w4, w5⟩ := hw
  exact ⟨w1, ob, w2, e, w3, w4, w5.imp id (h _)⟩
theorem blkL_ok {md : Region.Mode} {listed : Array Bool} {k : Nat} : ∀ (l B : List Nat), (∀ b, inB B b = true → Waits md ops listed k B b) →
    (∀ b, inB (blkL md ops listed k l B) b = true → Waits md ops listed k (blkL md ops listed k l B) b)
  | [], B, h => h
  | j :: r, B, h => by
    rw [blkL]
    split
    · rename_i oj hoj
      cases hc : (!listed.getD j true && oj.after.any (fun e => Region.binds md e && (Nat.beq e.on k || inB B e.on))) with
      | false => exact blkL_ok r B h
      | true =>
        simp only [cond_true]
        refine blkL_ok r (j :: B) fun b hb => ?_
        have hsub : ∀ x, inB B x = true → inB (j :: B) x = true := fun x hx => by simp [inB, hx]
        simp only [inB, Bool.or_eq_true] at hb
        rcases hb with hb | hb
        · obtain rfl := Nat.eq_of_beq_eq_true hb
          simp only [Bool.and_eq_true, Bool.not_eq_true'] at hc
          obtain ⟨c1, c2⟩ := hc
          rw [Array.any_eq_true'] at c2
          obtain ⟨e, he, hbn⟩ := c2
          simp only [Bool.and_eq_true, Bool.or_eq_true] at hbn
          exact ⟨c1, oj, hoj, e, he, hbn.1, hbn.2.imp Nat.eq_of_beq_eq_true (hsub _)⟩
        · exact (h b hb).mono hsub
    · exact blkL_ok r B h
/-- operation k is apart from all that have not come up and do not wait for it -/
def freeX (md : Region.Mode) (ops : Array Oper) (fps : List FP) (listed : Array Bool) (k : Nat) : Bool :=
  (List.range ops.size).all fun j =>
    match ops[j]?, ops[k]? with
    | some oj, some ok => Nat.beq j k || listed.getD j true || indepB ops (fps.getD k ([], [])) (fps.getD j ([], [])) ok oj || inB (blkL md ops listed k (List.range ops.size) []) j
    | _, _ => true
def lexX (md : Region.Mode) (ops : Array Oper) (fps : List FP) : Nat → Nat → Array Bool → Bool
  | 0, _, listed => (Region.ready md ops listed).isEmpty
  | fuel + 1, k, listed => (Region.ready md ops listed).contains k && freeX md ops fps listed k && lexX md ops fps fuel (k + 1) (listed.setIfInBounds k true)

theorem freeX_spec {md : Region.Mode} {fps : List FP} {listed : Array Bool} {k : Nat} {ok : Oper} (hk : ops[k]? = some ok) (h : freeX md ops fps listed k = true) : ∀ j oj, ops[j]? = some oj → j ≠ k → listed.getD j true = false → inB (blkL md ops listed k (List.range ops.size) []) j = false →
    indepB ops (fps.getD k ([], [])) (fps.getD j ([], [])) ok oj = true := by
  intro j oj hj hjk hun hno
  have := List.all_eq_true.1 h j (List.mem_range.2 (Array.getElem?_eq_some_iff.1 hj).1)
  rw [hj, hk] at this
  simp only [Bool.or_eq_true] at this
  rcases this with ((h1 | h1) | h1) | h1
  · exact absurd (Nat.eq_of_beq_eq_true h1) hjk
  · rw [hun] at h1; cases h1
  · exact h1
  · rw [hno] at h1; cases h1

/-- the run in the order of the text, with what each operation reads and writes -/
inductive LexD (P : Program) (T : Nat → Option TI) (nt : Nat) (ops : Array Oper) : List Oper → St → List FP → St → Prop
  | nil (s : St) : LexD P T nt ops [] s [] s
  | cons {o : Oper} {r : List Oper} {s s2 : St} {fp : FP} {fps : List FP} {d : D} {us : Upds} (h : Sd P T nt ops fp o s d us) (k : LexD P T nt ops r (s.app o.dst d us) fps s2) : LexD P T nt ops (o :: r) s (fp :: fps) s2

theorem anyA_lex {md : Region.Mode} {fps : List FP} {sf : St} : ∀ (l : List Oper) (k : Nat) (listed : Array Bool) (s : St) (fl : List FP), (∀ j, l[j]? = ops[k + j]?) → (∀ j, fl[j]? = fps[k + j]?) → LexD P T nt ops l s fl sf →
    lexX md ops fps l.length k listed = true → AnyA P T nt md ops fps sf l.length listed s
  | [], k, listed, s, fl, _, _, h, hB => by
    cases h
    exact ⟨by simpa [lexX] using hB, rfl⟩
  | o :: l, k, listed, s, fl, hl, hf, h, hB => by
    cases h with
    | cons hS hk =>
      rename_i fp fps' d us
      have h0 : ops[k]? = some o := by simpa using (hl 0).symm
      have hfp : fps.getD k ([], []) = fp := by
        have : fps[k]? = some fp := by simpa using (hf 0).symm
        rw [List.getD_eq_getElem?_getD, this]; rfl
      simp only [List.length_cons, lexX, Bool.and_eq_true] at hB
      obtain ⟨⟨hr, hfree⟩, hB'⟩ := hB
      exact anyA_first h0 l.length listed s (blkL_ok _ [] fun b hb => nomatch (show false = true from hb)) (freeX_spec h0 hfree) (by simpa using hr) (by rw [hfp]; exact hS)
        (anyA_lex l (k + 1) _ _ fps' (fun j => by have := hl (j + 1); simpa [Nat.add_assoc, Nat.add_comm 1 j] using this) (fun j => by have := hf (j + 1); simpa [Nat.add_assoc, Nat.add_comm 1 j] using this) hk hB')

theorem wpAny_of_A (hT : TOk P T) (hnt : X.nt = nt) {md : Region.Mode} {fps : List FP} {sf : St} {Q : Exit → Act → World → Prop} (hQ : ∀ a w, R X sf a w → Q .normal a w) : ∀ (fuel : Nat) (listed : Array Bool) (s : St) (a : Act) (w : World), R X s a w →
    AnyA P T nt md ops fps sf fuel listed s → wpAny P md ops Q fuel listed a w
  | 0, _, s, a, w, hR, h => ⟨h.1, hQ a w (by rw [← h.2]; exact hR)⟩
  | fuel + 1, listed, s, a, w, hR, h => ⟨fun h0 => hQ a w (by rw [← h.1 h0]; exact hR), fun i hi => by
    obtain ⟨o, d, us, ho, hS, hA⟩ := h.2 i hi
    have := hS.eff.sound hT hnt Q a w hR
    unfold wpOp
    rw [ho]
    simp only
    split
    · rename_i hw
      rw [if_pos hw] at this
      exact .inl (Oper.wp_mono (fun a w hr => wpAny_of_A hT hnt hQ fuel _ _ a w hr hA) this)
    · rename_i hw
      rw [if_neg hw] at this
      exact wpAny_of_A hT hnt hQ fuel _ _ _ _ this hA⟩

theorem tr_draw (hT : TOk P T) (hnt : X.nt = nt) (hm : P.follows .mixedOrders = true) {id : Nat} {s sf : St} {fps : List FP} {Q : Exit → St → Prop} (h : LexD P T nt ops ops.toList s fps sf)
    (hB : lexX .any ops fps ops.size 0 (Array.replicate ops.size false) = true) (hQ : Q .normal sf) : Tr P X (.region id ops true) s Q := by
  intro a w ⟨μ, hM, hsz, hdf, hr⟩
  refine wp_region_any hm ?_
  obtain ⟨h1, h2⟩ := hM.same (w' := { w with drawn := w.drawn + 1 }) rfl rfl rfl rfl
  have hR : R X s a { w with drawn := w.drawn + 1 } := ⟨μ, h1, hsz, hdf, fun t => (hr t).kept h2⟩
  have := anyA_lex (P := P) (T := T) (nt := nt) (md := .any) (fps := fps) ops.toList 0 (Array.replicate ops.size false) s fps (by simp) (by simp) h (by simpa using hB)
  exact wpAny_of_A hT hnt (fun a w hR => ⟨sf, hQ, hR⟩) _ _ _ a _ hR (by simpa using this)
end
end Go.Proofs.YtcjeeoimjkhijaaDoor.Ab
