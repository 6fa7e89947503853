/- Weaker states: what a loop's head keeps. No condition. -/
import Derived.Test.YtcjeeoimjkhijaaDoorAb18
namespace Go.Proofs.YtcjeeoimjkhijaaDoor.Ab
open Go Go.RowKit

def lookT : List (Nat × D) → Nat → D
  | [], _ => .any
  | (k, d) :: r, t => bif Nat.beq t k then d else lookT r t
def lookM : List (Nat × Blk) → Nat → Option Blk
  | [], _ => none
  | (k, b) :: r, t => bif Nat.beq t k then some b else lookM r t
/-- a state written out -/
def St.of (ts : List (Nat × D)) (ms : List (Nat × Blk)) : St := ⟨lookT ts, lookM ms⟩

def Cur (m : Mem) (i v : Nat) : Prop :=
  match m i with
  | some b => b.ver = v
  | none => False
def inB (l : List Nat) (i : Nat) : Bool :=
  match l with
  | [] => false
  | k :: r => Nat.beq i k || inB r i

/-- what closures captured: the same variables -/
def ClSim (ad : List Nat) (m m' : Mem) : List (Nat × Nat × Nat) → List (Nat × Nat × Nat) → Prop
  | [], [] => True
  | c :: r, d :: s => (d.1 = c.1 ∧ d.2.2 = c.2.2 ∧ inB ad c.1 = false ∧ Cur m c.1 c.2.1 ∧ Cur m' c.1 d.2.1) ∧ ClSim ad m m' r s
  | _, _ => False
def D0Sim (ad : List Nat) (m m' : Mem) : D0 → D0 → Prop
  | .e a, .e b => a = b
  | .nil, .nil => True
  | .nil, .own i v => inB ad i = true ∧ Cur m' i v
  | .nil, .e b => b = .sl []
  | .ptr i v o, .ptr i' v' o' => i' = i ∧ o' = o ∧ inB ad i = false ∧ Cur m i v ∧ Cur m' i v'
  | .rptr i v a b, .rptr i' v' a' b' => i' = i ∧ a' = a ∧ b' = b ∧ inB ad i = false ∧ Cur m i v ∧ Cur m' i v'
  | .eptr a, .eptr b => a = b
  | .own i v, .own i' v' => i' = i ∧ inB ad i = false ∧ Cur m i v ∧ Cur m' i v'
  | .clo f [], .clo g [] => f = g
  | .clo f (c :: cs), .clo g (d :: ds) => f = g ∧ ClSim ad m m' (c :: cs) (d :: ds)
  | .bsl i v o z n, .bsl i' v' o' z' n' => i' = i ∧ o' = o ∧ z' = z ∧ n' = n ∧ inB ad i = false ∧ Cur m i v ∧ Cur m' i v'
  | _, _ => False
def DsSim (ad : List Nat) (m m' : Mem) : List D0 → List D0 → Prop
  | [], [] => True
  | x :: r, y :: s => D0Sim ad m m' x y ∧ DsSim ad m m' r s
  | _, _ => False
def CsSim (ad : List Nat) (m m' : Mem) : Cs → Cs → Prop
  | .es a, .es b => a = b
  | c, c' => DsSim ad m m' c.d0 c'.d0
def TSim (ad : List Nat) (m m' : Mem) : List (Bool × Cs) → List (Bool × Cs) → Prop
  | [], [] => True
  | x :: r, y :: s => (x.1 = y.1 ∧ CsSim ad m m' x.2 y.2) ∧ TSim ad m m' r s
  | _, _ => False
def DSim (ad : List Nat) (m m' : Mem) : D → D → Prop
  | _, .any => True
  | .one x, .one y => D0Sim ad m m' x y
  | .agg c, .agg c' => CsSim ad m m' c c'
  | .tup xs, .tup ys => TSim ad m m' xs ys
  | .gd q d, .gd q' d' => q = q' ∧ d = d'  ∧ False
  | _, _ => False
def BodySim (ad : List Nat) (m m' : Mem) : Body → Body → Prop
  | .box c, .box c' => CsSim ad m m' c c'
  | .row z xs, .row z' xs' => z = z' ∧ xs = xs'
  | _, _ => False
def BSim (ad : List Nat) (m m' : Mem) (id : Nat) (b' : Blk) : Prop :=
  bif inB ad id then
    match b' with
    | ⟨_, .row z [], 0⟩ => 0 < z
    | _ => False
  else
    match m id with
    | some b => BodySim ad m m' b.body b'.body ∧ b.pub = b'.pub
    | none => False

def tmOk (ad : List Nat) (s s' : St) : List (Nat × D) → Prop
  | [] => True
  | (t, d) :: r => DSim ad s.mem s'.mem (s.tm t) d ∧ tmOk ad s s' r
def memOk (ad : List Nat) (s s' : St) : List (Nat × Blk) → Prop
  | [] => True
  | (t, b) :: r => BSim ad s.mem s'.mem t b ∧ memOk ad s s' r

section
variable {X : Ctx}

theorem lookT_ok {ad : List Nat} {s s' : St} : ∀ {l : List (Nat × D)}, tmOk ad s s' l → ∀ t, DSim ad s.mem s'.mem (s.tm t) (lookT l t)
  | [], _, t => by cases s.tm t <;> trivial
  | (k, d) :: r, h, t => by
    rw [lookT]
    cases hk : Nat.beq t k with
    | true => obtain rfl := Nat.eq_of_beq_eq_true hk; exact h.1
    | false => exact lookT_ok h.2 t
theorem lookM_ok {ad : List Nat} {s s' : St} : ∀ {l : List (Nat × Blk)}, memOk ad s s' l → ∀ id b', lookM l id = some b' → BSim ad s.mem s'.mem id b'
  | [], _, id, b', h => by cases h
  | (k, b) :: r, h, id, b', hb => by
    rw [lookM] at hb
    cases hk : Nat.beq id k with
    | true => obtain rfl := Nat.eq_of_beq_eq_true hk; simp only [hk, cond_true, Option.some.injEq] at hb; subst hb; exact h.1
    | false => simp only [hk, cond_false] at hb; exact lookM_ok h.2 id b' hb

theorem Cur.get {m : Mem} {i v : Nat} (h : Cur m i v) : ∃ b, m i = some b ∧ b.ver = v := by
  unfold Cur at h
  split at h
  · rename_i b hb; exact ⟨b, hb, h⟩
  · exact h.elim

theorem le_of {ad : List Nat} {s : St} {ts : List (Nat × D)} {ms : List (Nat × Blk)} (ht : tmOk ad s (St.of ts ms) ts) (hm : memOk ad s (St.of ts ms) ms) : Le X s (St.of ts ms) := by
  classical
  intro a w ⟨μ, hM, hsz, hdf, hr⟩
  let m' : Mem := lookM ms
  let μ' : Nat → Option Nat := fun id => if inB ad id = true ∨ m' id = none then none else μ id
  have hbs : ∀ id b', m' id = some b' → BSim ad s.mem m' id b' := fun id b' h => lookM_ok hm id b' h
  have hμ : ∀ id b', m' id = some b' → inB ad id = false → μ' id = μ id := fun id b' h1 h2 => by
    show (if inB ad id = true ∨ m' id = none then none else μ id) = μ id
    rw [if_neg (by rw [h1, h2]; simp)]
  have hμad : ∀ id, inB ad id = true → μ' id = none := fun id h => by
    show (if inB ad id = true ∨ m' id = none then none else μ id) = none
    rw [if_pos (.inl h)]
  have hback : ∀ id b' g, m' id = some b' → μ' id = some g → inB ad id = false ∧ μ id = some g := fun id b' g h1 h2 => by
    cases hi : inB ad id with
    | true => rw [hμad id hi] at h2; cases h2
    | false => rw [hμ id b' h1 hi] at h2; exact ⟨rfl, h2⟩
  have hbsim : ∀ id b', m' id = some b' → inB ad id = false → ∃ b, s.mem id = some b ∧ BodySim ad s.mem m' b.body b'.body ∧ b.pub = b'.pub := fun id b' h1 h2 => by
    have := hbs id b' h1
    unfold BSim at this
    simp only [h2, cond_false] at this
    split at this
    · rename_i b hb; exact ⟨b, hb, this⟩
    · exact this.elim
  let p : Rho := ⟨s.mem, μ⟩
  let p' : Rho := ⟨m', μ'⟩
  have hC : ∀ b o u, CW X p w b o u → CW X p' w b o u := fun b o u ⟨k1, k2, k3⟩ => ⟨k1, k2, fun hb id b' m1 m2 => by
    obtain ⟨h1, h2⟩ := hback id b' b m1 m2
    obtain ⟨b0, h3, _, h4⟩ := hbsim id b' m1 h1
    rw [← h4]
    exact k3 hb id b0 h3 h2⟩
  have hshape : ∀ (b b' : Body), BodySim ad s.mem m' b b' → b'.shape = b.shape := fun b b' h => by
    cases b with
    | row z xs => cases b' with
      | row z' xs' => obtain ⟨rfl, rfl⟩ := h; rfl
      | box c => exact h.elim
    | box c => cases b' with
      | row z' xs' => exact h.elim
      | box c' =>
        have hlen : ∀ (l l' : List D0), DsSim ad s.mem m' l l' → l'.length = l.length := fun l => by
          induction l with
          | nil => intro l' h; cases l' with
            | nil => rfl
            | cons => exact h.elim
          | cons x l ih => intro l' h; cases l' with
            | nil => exact h.elim
            | cons y l' => simp [ih l' h.2]
        show (0, c'.d0.length) = (0, c.d0.length)
        congr 1
        have h : CsSim ad s.mem m' c c' := h
        cases c with
        | es x => cases c' with
          | es y => rw [show x = y from h]
          | ds y => exact hlen _ _ h
        | ds x => exact hlen _ _ h
  have h0 : ∀ x y v, D0Sim ad s.mem m' x y → Rep0 p (CW X p w) w x v → Rep0 p' (CW X p' w) w y v := by
    intro x y v hs hv
    unfold D0Sim at hs
    split at hs
    · subst hs; exact RepE.mono hC hv
    · exact hv
    · rename_i i v'
      obtain ⟨h1, h2⟩ := hs
      obtain ⟨b', h3, h4⟩ := h2.get
      obtain rfl : v = .slice none 0 0 := hv
      have hb := hbs i b' h3
      unfold BSim at hb
      simp only [h1, cond_true] at hb
      split at hb
      · rename_i ver z
        exact ⟨rfl, _, h3, Nat.le_of_eq h4.symm, fun _ => ⟨z, 0, rfl, hb, .inl ⟨rfl, none, rfl⟩⟩⟩
      · exact hb.elim
    · subst hs
      obtain rfl : v = .slice none 0 0 := hv
      exact RepE.sl none 0 0 0 0 0 (fun _ _ => undef) [] rfl (Nat.le_refl _) (Nat.zero_le _) (fun h => absurd h (by omega)) (fun cs hc => nomatch hc) (fun i cs j e hi => nomatch hi) (fun i cs j e hi => nomatch hi)
    · rename_i i v1 o i' v2 o'
      obtain ⟨rfl, rfl, h1, h2, h3⟩ := hs
      obtain ⟨b, h4, h5⟩ := h2.get
      obtain ⟨b', h6, h7⟩ := h3.get
      obtain ⟨k0, blk, k1, k2, k3⟩ := hv
      have k1 : s.mem i' = some blk := k1
      rw [h4] at k1
      cases k1
      obtain ⟨g, k4, k5⟩ := k3 h5.symm
      exact ⟨k0, b', h6, Nat.le_of_eq h7.symm, fun _ => ⟨g, (hμ i' b' h6 h1).trans k4, k5⟩⟩
    · rename_i i v1 a1 b1 i' v2 a2 b2
      obtain ⟨rfl, rfl, rfl, h1, h2, h3⟩ := hs
      obtain ⟨b, h4, h5⟩ := h2.get
      obtain ⟨b', h6, h7⟩ := h3.get
      obtain ⟨k0, blk, k1, k2, k3⟩ := hv
      have k1 : s.mem i' = some blk := k1
      rw [h4] at k1
      cases k1
      obtain ⟨g, k4, k5⟩ := k3 h5.symm
      obtain ⟨b0, q1, q2, _⟩ := hbsim i' b' h6 h1
      rw [h4] at q1
      cases q1
      exact ⟨k0, b', h6, Nat.le_of_eq h7.symm, fun _ => ⟨g, (hμ i' b' h6 h1).trans k4, by rw [hshape _ _ q2]; exact k5⟩⟩
    · subst hs
      obtain ⟨b, o, rfl, hc⟩ := hv
      refine ⟨b, o, rfl, fun j e he => ?_⟩
      obtain ⟨u, k1, k2⟩ := hc j e he
      exact ⟨u, hC _ _ _ k1, k2.mono hC⟩
    · rename_i i v1 i' v2
      obtain ⟨rfl, h1, h2, h3⟩ := hs
      obtain ⟨b, h4, h5⟩ := h2.get
      obtain ⟨b', h6, h7⟩ := h3.get
      obtain ⟨k0, blk, k1, k2, k3⟩ := hv
      have k1 : s.mem i' = some blk := k1
      rw [h4] at k1
      cases k1
      obtain ⟨z, n, k4, k5, k6⟩ := k3 h5.symm
      obtain ⟨b0, q1, q2, _⟩ := hbsim i' b' h6 h1
      rw [h4] at q1
      cases q1
      refine ⟨k0, b', h6, Nat.le_of_eq h7.symm, fun _ => ⟨z, n, by rw [hshape _ _ q2]; exact k4, k5, ?_⟩⟩
      rcases k6 with k6 | ⟨g, cap, g1, g2⟩
      · exact .inl k6
      · exact .inr ⟨g, cap, (hμ i' b' h6 h1).trans g1, g2⟩
    · subst hs
      obtain ⟨vs, rfl, hl, _⟩ := hv
      exact ⟨vs, rfl, hl, fun i c u h => nomatch h⟩
    · rename_i f c cs g d ds
      obtain ⟨rfl, hs⟩ := hs
      obtain ⟨vs, rfl, hl, hv⟩ := hv
      have key : ∀ (cs ds : List (Nat × Nat × Nat)) (vs : List Value), ClSim ad s.mem m' cs ds → cs.length = vs.length → (∀ (i : Nat) c u, cs[i]? = some c → vs[i]? = some u → Live p c.1 c.2.1 fun g => u = .pointer (some ⟨g, c.2.2, none⟩)) →
          ds.length = vs.length ∧ ∀ (i : Nat) c u, ds[i]? = some c → vs[i]? = some u → Live p' c.1 c.2.1 fun g => u = .pointer (some ⟨g, c.2.2, none⟩) := by
        intro cs
        induction cs with
        | nil => intro ds vs h h1 _; cases ds with
          | nil => exact ⟨h1, fun i c u h => nomatch h⟩
          | cons => exact h.elim
        | cons c cs ih => intro ds vs h h1 h2; cases ds with
          | nil => exact h.elim
          | cons d ds => cases vs with
            | nil => cases h1
            | cons v vs =>
              obtain ⟨⟨q1, q2, q3, q4, q5⟩, hr⟩ := h
              have h3 := ih ds vs hr (by simpa using h1) (fun i c u hc hu => h2 (i + 1) c u (by simpa using hc) (by simpa using hu))
              refine ⟨by simp [h3.1], fun i c' u hc hu => ?_⟩
              cases i with
              | succ i => exact h3.2 i c' u (by simpa using hc) (by simpa using hu)
              | zero =>
                simp at hc hu
                subst hc
                subst hu
                obtain ⟨blk, k1, k2, k3⟩ := h2 0 c v rfl rfl
                obtain ⟨b, h4, h5⟩ := q4.get
                obtain ⟨b', h6, h7⟩ := q5.get
                have k1 : s.mem c.1 = some blk := k1
                rw [h4] at k1
                cases k1
                obtain ⟨g, k4, k5⟩ := k3 h5.symm
                rw [q1, q2]
                exact ⟨b', h6, Nat.le_of_eq h7.symm, fun _ => ⟨g, (hμ c.1 b' h6 q3).trans k4, k5⟩⟩
      obtain ⟨e1, e2⟩ := key _ _ _ hs hl hv
      exact ⟨vs, rfl, e1, e2⟩
    · rename_i i v1 o1 z1 n1 i' v2 o2 z2 n2
      obtain ⟨rfl, rfl, rfl, rfl, h1, h2, h3⟩ := hs
      obtain ⟨b, h4, h5⟩ := h2.get
      obtain ⟨b', h6, h7⟩ := h3.get
      obtain ⟨k0, blk, k1, k2, k3⟩ := hv
      have k1 : s.mem i' = some blk := k1
      rw [h4] at k1
      cases k1
      obtain ⟨k4, k5, g, cap, g1, g2⟩ := k3 h5.symm
      obtain ⟨b0, q1, q2, _⟩ := hbsim i' b' h6 h1
      rw [h4] at q1
      cases q1
      exact ⟨k0, b', h6, Nat.le_of_eq h7.symm, fun _ => ⟨k4, by rw [hshape _ _ q2]; exact k5, g, cap, (hμ i' b' h6 h1).trans g1, g2⟩⟩
    · exact hs.elim
  have hds : ∀ (l l' : List D0) (vs : List Value), DsSim ad s.mem m' l l' → Rep2 p (CW X p w) w l vs → Rep2 p' (CW X p' w) w l' vs := fun l => by
    induction l with
    | nil => intro l' vs h hr; cases l' with
      | nil => exact ⟨hr.1, fun i x u h => nomatch h⟩
      | cons => exact h.elim
    | cons x l ih => intro l' vs h hr; cases l' with
      | nil => exact h.elim
      | cons y l' => cases vs with
        | nil => have := hr.1; simp at this
        | cons v vs =>
          have h1 := ih l' vs h.2 ⟨by simpa using hr.1, fun i x u hx hu => hr.2 (i + 1) x u (by simpa using hx) (by simpa using hu)⟩
          refine ⟨by simp [h1.1], fun i x' u hx hu => ?_⟩
          cases i with
          | zero => simp at hx hu; subst hx; subst hu; exact h0 _ _ _ h.1 (hr.2 0 _ _ rfl rfl)
          | succ i => exact h1.2 i x' u (by simpa using hx) (by simpa using hu)
  have hes : ∀ (es : List E) (vs : List Value), Rep2 p (CW X p w) w (es.map .e) vs → Rep2 p' (CW X p' w) w (es.map .e) vs := fun es vs hr => ⟨hr.1, fun i x u hx hu => by
    have h1 := hr.2 i x u hx hu
    simp only [List.getElem?_map, Option.map_eq_some_iff] at hx
    obtain ⟨e, _, rfl⟩ := hx
    exact RepE.mono hC h1⟩
  have hcs : ∀ (c c' : Cs) (vs : List Value), CsSim ad s.mem m' c c' → Rep2 p (CW X p w) w c.d0 vs → Rep2 p' (CW X p' w) w c'.d0 vs := fun c c' vs h hr => by
    cases c with
    | es x => cases c' with
      | es y => rw [← show x = y from h]; exact hes x vs hr
      | ds y => exact hds _ _ vs h hr
    | ds x => exact hds _ _ vs h hr
  refine ⟨μ', ⟨hM.bel, fun id b' hb => ?_⟩, hsz, hdf, fun t => ?_⟩
  · have hb : m' id = some b' := hb
    cases hi : inB ad id with
    | true =>
      have hbs' := hbs id b' hb
      unfold BSim at hbs'
      simp only [hi, cond_true] at hbs'
      split at hbs'
      · rename_i ver z
        have : (⟨(St.of ts ms).mem, μ'⟩ : Rho).μ id = none := hμad id hi
        unfold BlkOk
        rw [this]
        exact ⟨rfl, rfl, hbs', by simp⟩
      · exact hbs'.elim
    | false =>
      obtain ⟨b, h1, h2, h3⟩ := hbsim id b' hb hi
      have hbo := hM.blk id b h1
      have hμe : (⟨(St.of ts ms).mem, μ'⟩ : Rho).μ id = μ id := hμ id b' hb hi
      have hcl : ∀ cur : Array Value, (∀ (i : Nat) x, b.cells[i]? = some x → ∃ u, cur[i]? = some u ∧ Rep0 p (CW X p w) w x u) → (∀ (i : Nat) x, b'.cells[i]? = some x → ∃ u, cur[i]? = some u ∧ Rep0 p' (CW X p' w) w x u) ∧ b'.cells.length = b.cells.length := fun cur hc => by
        have hlist : ∃ vs : List Value, Rep2 p (CW X p w) w b.cells vs ∧ ∀ (i : Nat) u, vs[i]? = some u → cur[i]? = some u := by
          refine ⟨(List.range b.cells.length).map fun i => cur.getD i undef, ⟨by simp, fun i x u hx hu => ?_⟩, fun i u hu => ?_⟩
          · obtain ⟨u', k1, k2⟩ := hc i x hx
            simp only [List.getElem?_map, Option.map_eq_some_iff] at hu
            obtain ⟨j, hj, rfl⟩ := hu
            have : j = i := by
              have := List.getElem?_eq_some_iff.1 hj
              obtain ⟨_, he⟩ := this
              simpa using he.symm
            subst this
            rw [Array.getD_eq_getD_getElem?, k1]
            exact k2
          · simp only [List.getElem?_map, Option.map_eq_some_iff] at hu
            obtain ⟨j, hj, rfl⟩ := hu
            obtain ⟨hlt, he⟩ := List.getElem?_eq_some_iff.1 hj
            have : j = i := by simpa using he.symm
            subst this
            obtain ⟨u', k1, k2⟩ := hc j _ (List.getElem?_eq_getElem (by simpa using hlt))
            rw [Array.getD_eq_getD_getElem?, k1]
            rfl
        obtain ⟨vs, q1, q2⟩ := hlist
        have q3 : Rep2 p' (CW X p' w) w b'.cells vs := by
          obtain ⟨v1, bd1, pb1⟩ := b
          obtain ⟨v2, bd2, pb2⟩ := b'
          cases bd1 with
          | row z xs => cases bd2 with
            | row z' xs' => obtain ⟨rfl, rfl⟩ := h2; exact hes _ vs q1
            | box c => exact h2.elim
          | box c => cases bd2 with
            | row z' xs' => exact h2.elim
            | box c' => exact hcs c c' vs h2 q1
        refine ⟨fun i x hx => ?_, by rw [q3.1, q1.1]⟩
        have hl : i < vs.length := by rw [← q3.1]; exact (List.getElem?_eq_some_iff.1 hx).1
        exact ⟨vs[i], q2 i _ (List.getElem?_eq_getElem hl), q3.2 i x _ hx (List.getElem?_eq_getElem hl)⟩
      have hok : b.body.ok → b'.body.ok := fun hk => by
        obtain ⟨v1, bd1, pb1⟩ := b
        obtain ⟨v2, bd2, pb2⟩ := b'
        cases bd1 with
        | row z xs => cases bd2 with
          | row z' xs' => obtain ⟨rfl, rfl⟩ := h2; exact hk
          | box c => exact h2.elim
        | box c => cases bd2 with
          | row z' xs' => exact h2.elim
          | box c' => trivial
      unfold BlkOk at hbo ⊢
      rw [hμe]
      simp only at hbo
      split
      · rename_i hn
        simp only [hn] at hbo
        have hcc := hcl #[] (fun i x hx => by rw [hbo.1] at hx; cases hx)
        exact ⟨List.eq_nil_of_length_eq_zero (by rw [hcc.2, hbo.1]; rfl), by rw [← h3]; exact hbo.2.1, hok hbo.2.2⟩
      · rename_i g hg
        simp only [hg] at hbo
        obtain ⟨b0, b1, b2, b3, cur, et, lo, hi', b4, b5, b6, b7⟩ := hbo
        have hcc := hcl cur b7
        exact ⟨hok b0, b1, fun id2 blk2 q1 q2 => by
          obtain ⟨e1, e2⟩ := hback id2 blk2 g q1 q2
          obtain ⟨b4', e3, _⟩ := hbsim id2 blk2 q1 e1
          exact b2 id2 b4' e3 e2, by rw [hcc.2, ← h3]; exact b3, cur, et, lo, hi', b4, b5, by rw [hcc.2]; exact b6, hcc.1⟩
  · have hd := lookT_ok ht t
    have h1 := hr t
    show RepD p' (CW X p' w) w (lookT ts t) (slotV X.xg a.tmps t)
    generalize lookT ts t = d' at hd
    generalize s.tm t = d at hd h1
    unfold DSim at hd
    split at hd
    · trivial
    · exact h0 _ _ _ hd h1
    · rename_i c c'
      obtain ⟨vs, hv, hr2⟩ := h1
      exact ⟨vs, hv, hcs c c' vs hd hr2⟩
    · rename_i xs ys
      obtain ⟨vs, hv, hl, hx⟩ := h1
      have key : ∀ (xs ys : List (Bool × Cs)) (vs : List Value), TSim ad s.mem m' xs ys → xs.length = vs.length → (∀ (i : Nat) x u, xs[i]? = some x → vs[i]? = some u → RepT p (CW X p w) w x u) →
          ys.length = vs.length ∧ ∀ (i : Nat) x u, ys[i]? = some x → vs[i]? = some u → RepT p' (CW X p' w) w x u := by
        intro xs
        induction xs with
        | nil => intro ys vs h h1 _; cases ys with
          | nil => exact ⟨h1, fun i x u h => nomatch h⟩
          | cons => exact h.elim
        | cons x xs ih => intro ys vs h h1 h2; cases ys with
          | nil => exact h.elim
          | cons y ys => cases vs with
            | nil => cases h1
            | cons v vs =>
              obtain ⟨⟨q1, q2⟩, hr⟩ := h
              have h3 := ih ys vs hr (by simpa using h1) (fun i x u hx hu => h2 (i + 1) x u (by simpa using hx) (by simpa using hu))
              refine ⟨by simp [h3.1], fun i x' u hx hu => ?_⟩
              cases i with
              | succ i => exact h3.2 i x' u (by simpa using hx) (by simpa using hu)
              | zero =>
                simp at hx hu
                subst hx
                subst hu
                have h4 := h2 0 x v rfl rfl
                obtain ⟨bx, cx⟩ := x
                obtain ⟨b', c'⟩ := y
                obtain rfl : bx = b' := q1
                cases bx with
                | true => obtain ⟨us, rfl, h5⟩ := h4; exact ⟨us, rfl, hcs _ _ us q2 h5⟩
                | false => exact hcs _ _ [v] q2 h4
      obtain ⟨e1, e2⟩ := key _ _ _ hd hl hx
      exact ⟨vs, hv, e1, e2⟩
    · exact hd.2.2.elim
    · exact hd.elim
end
end Go.Proofs.YtcjeeoimjkhijaaDoor.Ab
