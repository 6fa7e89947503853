/- Part of the proof: steps of the program over abstract states. No condition. -/
import Derived.Test.YtcdifgacoleckaaGreatDoorG02
import Derived.Still
set_option linter.unusedVariables false
set_option linter.unusedSimpArgs false
namespace Go.Proofs.YtcdifgacoleckaaGreatDoor.Ab
open Go Go.RowKit
def kOf : TypeDesc -> K
 | .slice e => .slice e
 | .array n e => .arr n e
 | .struct F => .struct (F.toList.map fun f => (f.offset, f.type))
 | .string => .str
 | .int k => .int k
 | .bool => .bool
 | .pointer e => .ptr e
 | .map k e => .map k e
 | _ => .other
theorem zUF (d : TypeDesc) : KOk (kOf d) d := by
 cases d with
 | struct F => exact ⟨F, rfl, rfl⟩
 | slice e => rfl
 | array n e => rfl
 | string => rfl
 | int k => rfl
 | bool => rfl
 | pointer e => rfl
 | map k e => rfl
 | _ => exact ⟨(fun _ h => nomatch h), (fun _ _ h => nomatch h), (fun _ h => nomatch h), (fun h => nomatch h)⟩
def zO8 (P : Program) (t : Nat) : TypeDesc -> Bool
 | .struct F => !P.stoodInHeld t && !P.eqGuardType P.depth t && F.toList.all fun f => !(f.name == "_")
 | .array _ _ => !P.stoodInHeld t && !P.eqGuardType P.depth t
 | _ => true
theorem zQZ {P : Program} {t : Nat} {d : TypeDesc} (h : zO8 P t d = true) (ha : (kOf d).agg = true) : zWZ P t d := by
 cases d with
 | struct F =>
  simp only [zO8, Bool.and_eq_true, Bool.not_eq_true', List.all_eq_true] at h
  refine ⟨h.1.1, h.1.2, fun F' e f hf => ?_⟩
  cases e
  have := h.2 f hf
  simpa using this
 | array n e =>
  simp only [zO8, Bool.and_eq_true, Bool.not_eq_true'] at h
  exact ⟨h.1, h.2, fun F' e => by cases e⟩
 | _ => cases ha
def zWe : TypeDesc -> Value -> Bool
 | .int _, .agg _ => false
 | .struct _, .agg _ => true
 | .struct _, _ => false
 | .array _ _, .agg _ => true
 | .array _ _, _ => false
 | _, _ => true
def zVk (P : Program) (t : Nat) : Option TI :=
 match P.info? t, P.underlying t with
 | some i, some d =>
  match i.zero with
  | some z => bif (Nat.beq z.cells.size i.size && z.cells.toList.all (·.oneCell')) && ((zO8 P t d || !z.cells.toList.all zDX) && zWe d z) then some ⟨i.size, i.bytes, kOf d, z.cells.toList⟩ else none
  | none => none
 | _, _ => none
theorem zSg {P : Program} {t : Nat} {ti : TI} (h : zVk P t = some ti) : TIOk P t ti := by
 unfold zVk at h
 split at h
 ·rename_i i d h1 h2
  split at h
  ·rename_i z hz
   cases hb : ((Nat.beq z.cells.size i.size && z.cells.toList.all (·.oneCell')) && ((zO8 P t d || !z.cells.toList.all zDX) && zWe d z)) with
   | false => rw [hb] at h; cases h
   | true =>
    rw [hb] at h
    cases h
    simp only [Bool.and_eq_true] at hb
    refine ⟨⟨i, d, z, h1, h2, rfl, rfl, zUF d, hz, rfl, fun u hu => List.all_eq_true.1 hb.1.2 u hu⟩, ?_, fun ha hp d' hd' => ?_, fun i' z' k e1 e2 e3 cs e4 => ?_, fun i' z' e1 e2 e3 => ?_⟩
    ·simpa using Nat.eq_of_beq_eq_true hb.1.1
    ·rw [h2] at hd'
     cases hd'
     refine zQZ ?_ ha
     have h1 := hb.2.1
     rw [Bool.or_eq_true] at h1
     rcases h1 with h1 | h1
     ·exact h1
     ·rw [show z.cells.toList.all zDX = true from hp] at h1; cases h1
    ·rw [h1] at e1
     cases e1
     rw [hz] at e2
     cases e2
     subst e4
     cases d with
     | int k => exact absurd hb.2.2 (by simp [zWe])
     | _ => cases e3
    ·rw [h1] at e1
     cases e1
     rw [hz] at e2
     cases e2
     have h2' := hb.2.2
     cases z with
     | agg cs => exact ⟨cs, rfl⟩
     | _ => cases d <;> first | (cases e3; done) | (cases h2'; done)
  ·cases h
 ·cases h
def zSh (l : List (Option TI)) (t : Nat) : Option TI := l.getD t none
theorem zTP {P : Program} {l : List (Option TI)} {n : Nat} (h : l = (List.range n).map fun t => match l.getD t none with | some _ => zVk P t | none => none) : TOk P (zSh l) := by
 intro t ti ht
 unfold zSh at ht
 have h1 : l[t]? = some (some ti) := by
  rw [List.getD_eq_getElem?_getD] at ht
  cases hg : l[t]? with
  | none => rw [hg] at ht; cases ht
  | some x => rw [hg] at ht; simp only [Option.getD_some] at ht; rw [ht]
 rw [h] at h1
 simp only [List.getElem?_map, Option.map_eq_some_iff] at h1
 obtain ⟨k, hk, h2⟩ := h1
 obtain rfl : t = k := by
  have := List.getElem?_eq_some_iff.1 hk
  obtain ⟨hlt, he⟩ := this
  simpa using he
 rw [ht] at h2
 exact zSg h2
def zDO : List (Nat × D) -> Nat -> D
 | [], _ => .any
 | (k, d) :: r, t => bif Nat.beq t k then d else zDO r t
def zAl : List (Nat × Blk) -> Nat -> Option Blk
 | [], _ => none
 | (k, b) :: r, t => bif Nat.beq t k then some b else zAl r t
def St.of (ts : List (Nat × D)) (ms : List (Nat × Blk)) : St := ⟨zDO ts, zAl ms⟩
def Cur (m : Mem) (i v : Nat) : Prop :=
 match m i with
 | some b => b.ver = v
 | none => False
def inB (l : List Nat) (i : Nat) : Bool :=
 match l with
 | [] => false
 | k :: r => Nat.beq i k || inB r i
def zTg (ad : List Nat) (m m' : Mem) : List (Nat × Nat × Nat) -> List (Nat × Nat × Nat) -> Prop
 | [], [] => True
 | c :: r, d :: s => (d.1 = c.1 /\ d.2.2 = c.2.2 /\ inB ad c.1 = false /\ Cur m c.1 c.2.1 /\ Cur m' c.1 d.2.1) /\ zTg ad m m' r s
 | _, _ => False
def zRg (ad : List Nat) (m m' : Mem) : D0 -> D0 -> Prop
 | .e a, .e b => a = b
 | .nil, .nil => True
 | .nil, .own i v => inB ad i = true /\ Cur m' i v
 | .nil, .e b => b = .sl []
 | .ptr i v o, .ptr i' v' o' => i' = i /\ o' = o /\ inB ad i = false /\ Cur m i v /\ Cur m' i v'
 | .rptr i v a b, .rptr i' v' a' b' => i' = i /\ a' = a /\ b' = b /\ inB ad i = false /\ Cur m i v /\ Cur m' i v'
 | .eptr a, .eptr b => a = b
 | .eptr a, .e b => b = .pt a
 | .own i v, .own i' v' => i' = i /\ inB ad i = false /\ Cur m i v /\ Cur m' i v'
 | .clo f [], .clo g [] => f = g
 | .clo f (c :: cs), .clo g (d :: ds) => f = g /\ zTg ad m m' (c :: cs) (d :: ds)
 | .bsl i v o z n, .bsl i' v' o' z' n' => i' = i /\ o' = o /\ z' = z /\ n' = n /\ inB ad i = false /\ Cur m i v /\ Cur m' i v'
 | .hnd i v, .hnd i' v' => i' = i /\ inB ad i = false /\ Cur m i v /\ Cur m' i v'
 | _, _ => False
def zRe (ad : List Nat) (m m' : Mem) : List D0 -> List D0 -> Prop
 | [], [] => True
 | x :: r, y :: s => zRg ad m m' x y /\ zRe ad m m' r s
 | _, _ => False
def zNQ (ad : List Nat) (m m' : Mem) : Cs -> Cs -> Prop
 | .es a, .es b => a = b
 | c, c' => zRe ad m m' c.d0 c'.d0
def zWz (ad : List Nat) (m m' : Mem) : List (Bool × Cs) -> List (Bool × Cs) -> Prop
 | [], [] => True
 | x :: r, y :: s => (x.1 = y.1 /\ zNQ ad m m' x.2 y.2) /\ zWz ad m m' r s
 | _, _ => False
def zWC (ad : List Nat) (m m' : Mem) : D -> D -> Prop
 | _, .any => True
 | .one x, .one y => zRg ad m m' x y
 | .agg c, .agg c' => zNQ ad m m' c c'
 | .tup xs, .tup ys => zWz ad m m' xs ys
 | .gd q d, .gd q' d' => q = q' /\ d = d'  /\ False
 | _, _ => False
def zLx (ad : List Nat) (m m' : Mem) : Body -> Body -> Prop
 | .box c, .box c' => zNQ ad m m' c c'
 | .row z xs, .row z' xs' => z = z' /\ xs = xs'
 | .raw o, .raw o' => o = o'
 | _, _ => False
def zRh (ad : List Nat) (m m' : Mem) (id : Nat) (b' : Blk) : Prop :=
 bif inB ad id then
  match b' with
  | ⟨_, .row z [], 0⟩ => 0 < z
  | _ => False
 else
  match m id with
  | some b => zLx ad m m' b.body b'.body /\ b.pub = b'.pub
  | none => False
def zVj (ad : List Nat) (s s' : St) : List (Nat × D) -> Prop
 | [] => True
 | (t, d) :: r => zWC ad s.mem s'.mem (s.tm t) d /\ zVj ad s s' r
def zHt (ad : List Nat) (s s' : St) : List (Nat × Blk) -> Prop
 | [] => True
 | (t, b) :: r => zRh ad s.mem s'.mem t b /\ zHt ad s s' r
section
variable {X : Ctx}
theorem zMf {ad : List Nat} {s s' : St} : ∀ {l : List (Nat × D)}, zVj ad s s' l -> ∀ t, zWC ad s.mem s'.mem (s.tm t) (zDO l t)
 | [], _, t => by cases s.tm t <;> trivial
 | (k, d) :: r, h, t => by
  rw [zDO]
  cases hk : Nat.beq t k with
  | true => obtain rfl := Nat.eq_of_beq_eq_true hk; exact h.1
  | false => exact zMf h.2 t
theorem zMg {ad : List Nat} {s s' : St} : ∀ {l : List (Nat × Blk)}, zHt ad s s' l -> ∀ id b', zAl l id = some b' -> zRh ad s.mem s'.mem id b'
 | [], _, id, b', h => by cases h
 | (k, b) :: r, h, id, b', hb => by
  rw [zAl] at hb
  cases hk : Nat.beq id k with
  | true => obtain rfl := Nat.eq_of_beq_eq_true hk; simp only [hk, cond_true, Option.some.injEq] at hb; subst hb; exact h.1
  | false => simp only [hk, cond_false] at hb; exact zMg h.2 id b' hb
theorem Cur.get {m : Mem} {i v : Nat} (h : Cur m i v) : ∃ b, m i = some b /\ b.ver = v := by
 unfold Cur at h
 split at h
 ·rename_i b hb; exact ⟨b, hb, h⟩
 ·exact h.elim
theorem zAh {ad : List Nat} {s : St} {ts : List (Nat × D)} {ms : List (Nat × Blk)} (ht : zVj ad s (St.of ts ms) ts) (hm : zHt ad s (St.of ts ms) ms) : Le X s (St.of ts ms) := by
 classical
 intro a w ⟨μ, hM, hsz, hdf, hr⟩
 let m' : Mem := zAl ms
 let μ' : Nat -> Option Nat := fun id => if inB ad id = true \/ m' id = none then none else μ id
 have hbs : ∀ id b', m' id = some b' -> zRh ad s.mem m' id b' := fun id b' h => zMg hm id b' h
 have hμ : ∀ id b', m' id = some b' -> inB ad id = false -> μ' id = μ id := fun id b' h1 h2 => by
  show (if inB ad id = true \/ m' id = none then none else μ id) = μ id
  rw [if_neg (by rw [h1, h2]; simp)]
 have hμad : ∀ id, inB ad id = true -> μ' id = none := fun id h => by
  show (if inB ad id = true \/ m' id = none then none else μ id) = none
  rw [if_pos (.inl h)]
 have hback : ∀ id b' g, m' id = some b' -> μ' id = some g -> inB ad id = false /\ μ id = some g := fun id b' g h1 h2 => by
  cases hi : inB ad id with
  | true => rw [hμad id hi] at h2; cases h2
  | false => rw [hμ id b' h1 hi] at h2; exact ⟨rfl, h2⟩
 have hbsim : ∀ id b', m' id = some b' -> inB ad id = false -> ∃ b, s.mem id = some b /\ zLx ad s.mem m' b.body b'.body /\ b.pub = b'.pub := fun id b' h1 h2 => by
  have := hbs id b' h1
  unfold zRh at this
  simp only [h2, cond_false] at this
  split at this
  ·rename_i b hb; exact ⟨b, hb, this⟩
  ·exact this.elim
 let p : Rho := ⟨s.mem, μ⟩
 let p' : Rho := ⟨m', μ'⟩
 have hC : ∀ b o u, CW X p w b o u -> CW X p' w b o u := fun b o u ⟨k1, k2, k3⟩ => ⟨k1, k2, fun hb id b' m1 m2 => by
  obtain ⟨h1, h2⟩ := hback id b' b m1 m2
  obtain ⟨b0, h3, _, h4⟩ := hbsim id b' m1 h1
  rw [<-h4]
  exact k3 hb id b0 h3 h2⟩
 have hshape : ∀ (b b' : Body), zLx ad s.mem m' b b' -> b'.shape = b.shape := fun b b' h => by
  cases b with
  | raw o => cases b' with
   | raw o' => rfl
   | row z xs => exact h.elim
   | box c => exact h.elim
  | row z xs => cases b' with
   | row z' xs' => obtain ⟨rfl, rfl⟩ := h; rfl
   | box c => exact h.elim
   | raw o => exact h.elim
  | box c => cases b' with
   | row z' xs' => exact h.elim
   | raw o => exact h.elim
   | box c' =>
    have hlen : ∀ (l l' : List D0), zRe ad s.mem m' l l' -> l'.length = l.length := fun l => by
     induction l with
     | nil => intro l' h; cases l' with
      | nil => rfl
      | cons => exact h.elim
     | cons x l ih => intro l' h; cases l' with
      | nil => exact h.elim
      | cons y l' => simp [ih l' h.2]
    show (0, c'.d0.length) = (0, c.d0.length)
    congr 1
    have h : zNQ ad s.mem m' c c' := h
    cases c with
    | es x => cases c' with
     | es y => rw [show x = y from h]
     | ds y => exact hlen _ _ h
    | ds x => exact hlen _ _ h
 have h0 : ∀ x y v, zRg ad s.mem m' x y -> zCQ p (CW X p w) w x v -> zCQ p' (CW X p' w) w y v := by
  intro x y v hs hv
  unfold zRg at hs
  split at hs
  ·subst hs; exact RepE.mono hC hv
  ·exact hv
  ·rename_i i v'
   obtain ⟨h1, h2⟩ := hs
   obtain ⟨b', h3, h4⟩ := h2.get
   obtain rfl : v = .slice none 0 0 := hv
   have hb := hbs i b' h3
   unfold zRh at hb
   simp only [h1, cond_true] at hb
   split at hb
   ·rename_i ver z
    exact ⟨rfl, _, h3, Nat.le_of_eq h4.symm, fun _ => ⟨z, 0, rfl, hb, .inl ⟨rfl, none, rfl⟩⟩⟩
   ·exact hb.elim
  ·subst hs
   obtain rfl : v = .slice none 0 0 := hv
   exact RepE.sl none 0 0 0 0 0 (fun _ _ => undef) [] rfl (Nat.le_refl _) (Nat.zero_le _) (fun h => absurd h (by omega)) (fun cs hc => nomatch hc) (fun i cs j e hi => nomatch hi) (fun i cs j e hi => nomatch hi)
  ·rename_i i v1 o i' v2 o'
   obtain ⟨rfl, rfl, h1, h2, h3⟩ := hs
   obtain ⟨b, h4, h5⟩ := h2.get
   obtain ⟨b', h6, h7⟩ := h3.get
   obtain ⟨k0, blk, k1, k2, k3⟩ := hv
   have k1 : s.mem i' = some blk := k1
   rw [h4] at k1
   cases k1
   obtain ⟨g, k4, k5⟩ := k3 h5.symm
   exact ⟨k0, b', h6, Nat.le_of_eq h7.symm, fun _ => ⟨g, (hμ i' b' h6 h1).trans k4, k5⟩⟩
  ·rename_i i v1 a1 b1 i' v2 a2 b2
   obtain ⟨rfl, rfl, rfl, h1, h2, h3⟩ := hs
   obtain ⟨b, h4, h5⟩ := h2.get
   obtain ⟨b', h6, h7⟩ := h3.get
   obtain ⟨k0, blk, k1, k2, k3⟩ := hv
   have k1 : s.mem i' = some blk := k1
   rw [h4] at k1
   cases k1
   obtain ⟨g, k4, k5⟩ := k3 h5.symm
   obtain ⟨b0, q1, q2, _⟩ := hbsim i' b' h6 h1
   rw [h4] at q1
   cases q1
   exact ⟨k0, b', h6, Nat.le_of_eq h7.symm, fun _ => ⟨g, (hμ i' b' h6 h1).trans k4, by rw [hshape _ _ q2]; exact k5⟩⟩
  ·subst hs
   obtain ⟨b, o, rfl, hc⟩ := hv
   refine ⟨b, o, rfl, fun j e he => ?_⟩
   obtain ⟨u, k1, k2⟩ := hc j e he
   exact ⟨u, hC _ _ _ k1, k2.mono hC⟩
  ·subst hs
   exact (zSV hv).mono hC
  ·rename_i i v1 i' v2
   obtain ⟨rfl, h1, h2, h3⟩ := hs
   obtain ⟨b, h4, h5⟩ := h2.get
   obtain ⟨b', h6, h7⟩ := h3.get
   obtain ⟨k0, blk, k1, k2, k3⟩ := hv
   have k1 : s.mem i' = some blk := k1
   rw [h4] at k1
   cases k1
   obtain ⟨z, n, k4, k5, k6⟩ := k3 h5.symm
   obtain ⟨b0, q1, q2, _⟩ := hbsim i' b' h6 h1
   rw [h4] at q1
   cases q1
   refine ⟨k0, b', h6, Nat.le_of_eq h7.symm, fun _ => ⟨z, n, by rw [hshape _ _ q2]; exact k4, k5, ?_⟩⟩
   rcases k6 with k6 | ⟨g, cap, g1, g2⟩
   ·exact .inl k6
   ·exact .inr ⟨g, cap, (hμ i' b' h6 h1).trans g1, g2⟩
  ·subst hs
   obtain ⟨vs, rfl, hl, _⟩ := hv
   exact ⟨vs, rfl, hl, fun i c u h => nomatch h⟩
  ·rename_i f c cs g d ds
   obtain ⟨rfl, hs⟩ := hs
   obtain ⟨vs, rfl, hl, hv⟩ := hv
   have key : ∀ (cs ds : List (Nat × Nat × Nat)) (vs : List Value), zTg ad s.mem m' cs ds -> cs.length = vs.length -> (∀ (i : Nat) c u, cs[i]? = some c -> vs[i]? = some u -> zKv p c.1 c.2.1 fun g => u = .pointer (some ⟨g, c.2.2, none⟩)) ->
     ds.length = vs.length /\ ∀ (i : Nat) c u, ds[i]? = some c -> vs[i]? = some u -> zKv p' c.1 c.2.1 fun g => u = .pointer (some ⟨g, c.2.2, none⟩) := by
    intro cs
    induction cs with
    | nil => intro ds vs h h1 _; cases ds with
     | nil => exact ⟨h1, fun i c u h => nomatch h⟩
     | cons => exact h.elim
    | cons c cs ih => intro ds vs h h1 h2; cases ds with
     | nil => exact h.elim
     | cons d ds => cases vs with
      | nil => cases h1
      | cons v vs =>
       obtain ⟨⟨q1, q2, q3, q4, q5⟩, hr⟩ := h
       have h3 := ih ds vs hr (by simpa using h1) (fun i c u hc hu => h2 (i + 1) c u (by simpa using hc) (by simpa using hu))
       refine ⟨by simp [h3.1], fun i c' u hc hu => ?_⟩
       cases i with
       | succ i => exact h3.2 i c' u (by simpa using hc) (by simpa using hu)
       | zero =>
        simp at hc hu
        subst hc
        subst hu
        obtain ⟨blk, k1, k2, k3⟩ := h2 0 c v rfl rfl
        obtain ⟨b, h4, h5⟩ := q4.get
        obtain ⟨b', h6, h7⟩ := q5.get
        have k1 : s.mem c.1 = some blk := k1
        rw [h4] at k1
        cases k1
        obtain ⟨g, k4, k5⟩ := k3 h5.symm
        rw [q1, q2]
        exact ⟨b', h6, Nat.le_of_eq h7.symm, fun _ => ⟨g, (hμ c.1 b' h6 q3).trans k4, k5⟩⟩
   obtain ⟨e1, e2⟩ := key _ _ _ hs hl hv
   exact ⟨vs, rfl, e1, e2⟩
  ·rename_i i v1 o1 z1 n1 i' v2 o2 z2 n2
   obtain ⟨rfl, rfl, rfl, rfl, h1, h2, h3⟩ := hs
   obtain ⟨b, h4, h5⟩ := h2.get
   obtain ⟨b', h6, h7⟩ := h3.get
   obtain ⟨k0, blk, k1, k2, k3⟩ := hv
   have k1 : s.mem i' = some blk := k1
   rw [h4] at k1
   cases k1
   obtain ⟨k4, k5, g, cap, g1, g2⟩ := k3 h5.symm
   obtain ⟨b0, q1, q2, _⟩ := hbsim i' b' h6 h1
   rw [h4] at q1
   cases q1
   exact ⟨k0, b', h6, Nat.le_of_eq h7.symm, fun _ => ⟨k4, by rw [hshape _ _ q2]; exact k5, g, cap, (hμ i' b' h6 h1).trans g1, g2⟩⟩
  ·rename_i i v1 i' v2
   obtain ⟨rfl, h1, h2, h3⟩ := hs
   obtain ⟨b, h4, h5⟩ := h2.get
   obtain ⟨b', h6, h7⟩ := h3.get
   obtain ⟨k0, blk, k1, k2, k3⟩ := hv
   have k1 : s.mem i' = some blk := k1
   rw [h4] at k1
   cases k1
   obtain ⟨g, k4, k5⟩ := k3 h5.symm
   exact ⟨k0, b', h6, Nat.le_of_eq h7.symm, fun _ => ⟨g, (hμ i' b' h6 h1).trans k4, k5⟩⟩
  ·exact hs.elim
 have hds : ∀ (l l' : List D0) (vs : List Value), zRe ad s.mem m' l l' -> zBA p (CW X p w) w l vs -> zBA p' (CW X p' w) w l' vs := fun l => by
  induction l with
  | nil => intro l' vs h hr; cases l' with
   | nil => exact ⟨hr.1, fun i x u h => nomatch h⟩
   | cons => exact h.elim
  | cons x l ih => intro l' vs h hr; cases l' with
   | nil => exact h.elim
   | cons y l' => cases vs with
    | nil => have := hr.1; simp at this
    | cons v vs =>
     have h1 := ih l' vs h.2 ⟨by simpa using hr.1, fun i x u hx hu => hr.2 (i + 1) x u (by simpa using hx) (by simpa using hu)⟩
     refine ⟨by simp [h1.1], fun i x' u hx hu => ?_⟩
     cases i with
     | zero => simp at hx hu; subst hx; subst hu; exact h0 _ _ _ h.1 (hr.2 0 _ _ rfl rfl)
     | succ i => exact h1.2 i x' u (by simpa using hx) (by simpa using hu)
 have hes : ∀ (es : List E) (vs : List Value), zBA p (CW X p w) w (es.map .e) vs -> zBA p' (CW X p' w) w (es.map .e) vs := fun es vs hr => ⟨hr.1, fun i x u hx hu => by
  have h1 := hr.2 i x u hx hu
  simp only [List.getElem?_map, Option.map_eq_some_iff] at hx
  obtain ⟨e, _, rfl⟩ := hx
  exact RepE.mono hC h1⟩
 have hcs : ∀ (c c' : Cs) (vs : List Value), zNQ ad s.mem m' c c' -> zBA p (CW X p w) w c.d0 vs -> zBA p' (CW X p' w) w c'.d0 vs := fun c c' vs h hr => by
  cases c with
  | es x => cases c' with
   | es y => rw [<-show x = y from h]; exact hes x vs hr
   | ds y => exact hds _ _ vs h hr
  | ds x => exact hds _ _ vs h hr
 refine ⟨μ', ⟨hM.bel, fun id b' hb => ?_⟩, hsz, hdf, fun t => ?_⟩
 ·have hb : m' id = some b' := hb
  cases hi : inB ad id with
  | true =>
   have hbs' := hbs id b' hb
   unfold zRh at hbs'
   simp only [hi, cond_true] at hbs'
   split at hbs'
   ·rename_i ver z
    have : (⟨(St.of ts ms).mem, μ'⟩ : Rho).μ id = none := hμad id hi
    unfold zAP
    rw [this]
    exact ⟨rfl, rfl, hbs', by simp⟩
   ·exact hbs'.elim
  | false =>
   obtain ⟨b, h1, h2, h3⟩ := hbsim id b' hb hi
   have hbo := hM.blk id b h1
   have hμe : (⟨(St.of ts ms).mem, μ'⟩ : Rho).μ id = μ id := hμ id b' hb hi
   have hcl : ∀ cur : Array Value, (∀ (i : Nat) x, b.cells[i]? = some x -> ∃ u, cur[i]? = some u /\ zCQ p (CW X p w) w x u) -> (∀ (i : Nat) x, b'.cells[i]? = some x -> ∃ u, cur[i]? = some u /\ zCQ p' (CW X p' w) w x u) /\ b'.cells.length = b.cells.length := fun cur hc => by
    have hlist : ∃ vs : List Value, zBA p (CW X p w) w b.cells vs /\ ∀ (i : Nat) u, vs[i]? = some u -> cur[i]? = some u := by
     refine ⟨(List.range b.cells.length).map fun i => cur.getD i undef, ⟨by simp, fun i x u hx hu => ?_⟩, fun i u hu => ?_⟩
     ·obtain ⟨u', k1, k2⟩ := hc i x hx
      simp only [List.getElem?_map, Option.map_eq_some_iff] at hu
      obtain ⟨j, hj, rfl⟩ := hu
      have : j = i := by
       have := List.getElem?_eq_some_iff.1 hj
       obtain ⟨_, he⟩ := this
       simpa using he.symm
      subst this
      rw [Array.getD_eq_getD_getElem?, k1]
      exact k2
     ·simp only [List.getElem?_map, Option.map_eq_some_iff] at hu
      obtain ⟨j, hj, rfl⟩ := hu
      obtain ⟨hlt, he⟩ := List.getElem?_eq_some_iff.1 hj
      have : j = i := by simpa using he.symm
      subst this
      obtain ⟨u', k1, k2⟩ := hc j _ (List.getElem?_eq_getElem (by simpa using hlt))
      rw [Array.getD_eq_getD_getElem?, k1]
      rfl
    obtain ⟨vs, q1, q2⟩ := hlist
    have q3 : zBA p' (CW X p' w) w b'.cells vs := by
     obtain ⟨v1, bd1, pb1⟩ := b
     obtain ⟨v2, bd2, pb2⟩ := b'
     cases bd1 with
     | raw o => cases bd2 with
      | raw o' => exact ⟨q1.1, fun i x u h => nomatch h⟩
      | row z xs => exact h2.elim
      | box c => exact h2.elim
     | row z xs => cases bd2 with
      | row z' xs' => obtain ⟨rfl, rfl⟩ := h2; exact hes _ vs q1
      | box c => exact h2.elim
      | raw o => exact h2.elim
     | box c => cases bd2 with
      | row z' xs' => exact h2.elim
      | raw o => exact h2.elim
      | box c' => exact hcs c c' vs h2 q1
    refine ⟨fun i x hx => ?_, by rw [q3.1, q1.1]⟩
    have hl : i < vs.length := by rw [<-q3.1]; exact (List.getElem?_eq_some_iff.1 hx).1
    exact ⟨vs[i], q2 i _ (List.getElem?_eq_getElem hl), q3.2 i x _ hx (List.getElem?_eq_getElem hl)⟩
   have hok : b.body.ok -> b'.body.ok := fun hk => by
    obtain ⟨v1, bd1, pb1⟩ := b
    obtain ⟨v2, bd2, pb2⟩ := b'
    cases bd1 with
    | raw o => cases bd2 with
     | raw o' => rw [<-show o = o' from h2]; exact hk
     | row z xs => exact h2.elim
     | box c => exact h2.elim
    | row z xs => cases bd2 with
     | row z' xs' => obtain ⟨rfl, rfl⟩ := h2; exact hk
     | box c => exact h2.elim
     | raw o => exact h2.elim
    | box c => cases bd2 with
     | row z' xs' => exact h2.elim
     | raw o => exact h2.elim
     | box c' => trivial
   have hokN : b.body.okN -> b'.body.okN := fun hk => by
    obtain ⟨v1, bd1, pb1⟩ := b
    obtain ⟨v2, bd2, pb2⟩ := b'
    cases bd1 with
    | raw o => exact hk.elim
    | row z xs => cases bd2 with
     | row z' xs' => obtain ⟨rfl, rfl⟩ := h2; exact hk
     | box c => exact h2.elim
     | raw o => exact h2.elim
    | box c => cases bd2 with
     | row z' xs' => exact h2.elim
     | raw o => exact h2.elim
     | box c' => trivial
   have hobj : ∀ c e l h, b'.body.obj c e l h = b.body.obj c e l h := fun c e l h => by
    obtain ⟨v1, bd1, pb1⟩ := b
    obtain ⟨v2, bd2, pb2⟩ := b'
    cases bd1 with
    | raw o => cases bd2 with
     | raw o' => exact congrArg Raw.obj (show o = o' from h2).symm
     | row z xs => exact h2.elim
     | box c => exact h2.elim
    | row z xs => cases bd2 with
     | row z' xs' => rfl
     | box c => exact h2.elim
     | raw o => exact h2.elim
    | box c => cases bd2 with
     | row z' xs' => exact h2.elim
     | raw o => exact h2.elim
     | box c' => rfl
   unfold zAP at hbo ⊢
   rw [hμe]
   simp only at hbo
   split
   ·rename_i hn
    simp only [hn] at hbo
    have hcc := hcl #[] (fun i x hx => by rw [hbo.1] at hx; cases hx)
    exact ⟨List.eq_nil_of_length_eq_zero (by rw [hcc.2, hbo.1]; rfl), by rw [<-h3]; exact hbo.2.1, hokN hbo.2.2⟩
   ·rename_i g hg
    simp only [hg] at hbo
    obtain ⟨b0, b1, b2, b3, cur, et, lo, hi', b4, b5, b6, b7⟩ := hbo
    have hcc := hcl cur b7
    exact ⟨hok b0, b1, fun id2 blk2 q1 q2 => by
     obtain ⟨e1, e2⟩ := hback id2 blk2 g q1 q2
     obtain ⟨b4', e3, _⟩ := hbsim id2 blk2 q1 e1
     exact b2 id2 b4' e3 e2, by rw [hcc.2, <-h3]; exact b3, cur, et, lo, hi', by rw [hobj]; exact b4, b5, by rw [hcc.2]; exact b6, hcc.1⟩
 ·have hd := zMf ht t
  have h1 := hr t
  show zAy p' (CW X p' w) w (zDO ts t) (zAL X.xg a.tmps t)
  generalize zDO ts t = d' at hd
  generalize s.tm t = d at hd h1
  unfold zWC at hd
  split at hd
  ·trivial
  ·exact h0 _ _ _ hd h1
  ·rename_i c c'
   obtain ⟨vs, hv, hr2⟩ := h1
   exact ⟨vs, hv, hcs c c' vs hd hr2⟩
  ·rename_i xs ys
   obtain ⟨vs, hv, hl, hx⟩ := h1
   have key : ∀ (xs ys : List (Bool × Cs)) (vs : List Value), zWz ad s.mem m' xs ys -> xs.length = vs.length -> (∀ (i : Nat) x u, xs[i]? = some x -> vs[i]? = some u -> zMP p (CW X p w) w x u) ->
     ys.length = vs.length /\ ∀ (i : Nat) x u, ys[i]? = some x -> vs[i]? = some u -> zMP p' (CW X p' w) w x u := by
    intro xs
    induction xs with
    | nil => intro ys vs h h1 _; cases ys with
     | nil => exact ⟨h1, fun i x u h => nomatch h⟩
     | cons => exact h.elim
    | cons x xs ih => intro ys vs h h1 h2; cases ys with
     | nil => exact h.elim
     | cons y ys => cases vs with
      | nil => cases h1
      | cons v vs =>
       obtain ⟨⟨q1, q2⟩, hr⟩ := h
       have h3 := ih ys vs hr (by simpa using h1) (fun i x u hx hu => h2 (i + 1) x u (by simpa using hx) (by simpa using hu))
       refine ⟨by simp [h3.1], fun i x' u hx hu => ?_⟩
       cases i with
       | succ i => exact h3.2 i x' u (by simpa using hx) (by simpa using hu)
       | zero =>
        simp at hx hu
        subst hx
        subst hu
        have h4 := h2 0 x v rfl rfl
        obtain ⟨bx, cx⟩ := x
        obtain ⟨b', c'⟩ := y
        obtain rfl : bx = b' := q1
        cases bx with
        | true => obtain ⟨us, rfl, h5⟩ := h4; exact ⟨us, rfl, hcs _ _ us q2 h5⟩
        | false => exact hcs _ _ [v] q2 h4
   obtain ⟨e1, e2⟩ := key _ _ _ hd hl hx
   exact ⟨vs, hv, e1, e2⟩
  ·exact hd.2.2.elim
  ·exact hd.elim
end
section
variable {α : Type}
def fN (n : Nat) (k : Nat -> α) : α :=
 match n with
 | 0 => k 0
 | n + 1 => k (n + 1)
def fE (x : E) (k : E -> α) : α :=
 match x with
 | .v (.int a n) => k (.v (.int a n))
 | .v (.bool b) => k (.v (.bool b))
 | .v (.string s) => k (.v (.string s))
 | .v x => k (.v x)
 | .sl xs => k (.sl xs)
 | .pt cs => k (.pt cs)
def fD0 (x : D0) (k : D0 -> α) : α :=
 match x with
 | .e x => fE x fun x => k (.e x)
 | .nil => k .nil
 | .ptr i v o => fN v fun v => k (.ptr i v o)
 | .rptr i v a b => fN v fun v => k (.rptr i v a b)
 | .eptr cs => k (.eptr cs)
 | .own i v => fN v fun v => k (.own i v)
 | .clo f c => k (.clo f c)
 | .bsl i v o z n => fN v fun v => k (.bsl i v o z n)
 | .hnd i v => fN v fun v => k (.hnd i v)
def fL (xs : List D0) (k : List D0 -> α) : α :=
 match xs with
 | [] => k []
 | x :: r => fD0 x fun x => fL r fun r => k (x :: r)
def fC (c : Cs) (k : Cs -> α) : α :=
 match c with
 | .es xs => k (.es xs)
 | .ds xs => fL xs fun xs => k (.ds xs)
def fD (d : D) (k : D -> α) : α :=
 match d with
 | .any => k .any
 | .one x => fD0 x fun x => k (.one x)
 | .agg c => fC c fun c => k (.agg c)
 | .tup xs => k (.tup xs)
 | .gd q d => fD d fun d => k (.gd q d)
def fB (b : Blk) (k : Blk -> α) : α :=
 match b with
 | ⟨v, .box c, p⟩ => fN v fun v => fC c fun c => k ⟨v, .box c, p⟩
 | ⟨v, .row z xs, p⟩ => fN v fun v => k ⟨v, .row z xs, p⟩
 | ⟨v, .raw o, p⟩ => fN v fun v => k ⟨v, .raw o, p⟩
def fU (us : zBa) (k : zBa -> α) : α :=
 match us with
 | [] => k []
 | (i, b) :: r => fB b fun b => fU r fun r => k ((i, b) :: r)
theorem zUS (n : Nat) (k : Nat -> α) : fN n k = k n := by cases n <;> rfl
theorem zWp (x : E) (k : E -> α) : fE x k = k x := by
 cases x with
 | v x => cases x <;> rfl
 | sl xs => rfl
 | pt cs => rfl
theorem zRW (x : D0) (k : D0 -> α) : fD0 x k = k x := by
 cases x <;> simp only [fD0, zWp, zUS]
theorem zWo (xs : List D0) (k : List D0 -> α) : fL xs k = k xs := by
 induction xs generalizing k with
 | nil => rfl
 | cons x r ih => simp only [fL, zRW, ih]
theorem zUU (c : Cs) (k : Cs -> α) : fC c k = k c := by cases c <;> simp only [fC, zWo]
theorem zUT (d : D) (k : D -> α) : fD d k = k d := by
 induction d generalizing k with
 | gd q d ih => simp only [fD, ih]
 | any => rfl
 | one x => simp only [fD, zRW]
 | agg c => simp only [fD, zUU]
 | tup xs => rfl
theorem zWq (b : Blk) (k : Blk -> α) : fB b k = k b := by
 obtain ⟨v, bd, p⟩ := b
 cases bd <;> simp only [fB, zUS, zUU]
theorem zUR (us : zBa) (k : zBa -> α) : fU us k = k us := by
 induction us generalizing k with
 | nil => rfl
 | cons u r ih => obtain ⟨i, b⟩ := u; simp only [fU, zWq, ih]
end
def zDH (m : Mem) : zBa -> Mem
 | [] => m
 | [(i, b)] => upd m i (some b)
 | (i, b) :: r => zDH (upd m i (some b)) r
theorem zB9 : ∀ (us : zBa) (m : Mem), zDH m us = zBd m us
 | [], m => rfl
 | [(i, b)], m => rfl
 | (i, b) :: u :: r, m => by rw [zDH, zB9 (u :: r)]; rfl; simp
def zBh : List Prop -> Prop
 | [] => True
 | [p] => p
 | p :: r => p /\ zBh r
theorem zDw {p : Prop} {l : List Prop} : zBh (p :: l) ↔ p /\ zBh l := by
 cases l with
 | nil => simp [zBh]
 | cons q r => rfl
structure Ran where
 ps : List Prop
 tm : Nat -> D
 mem : Mem
 rest : List Oper
def zGb (T : Nat -> Option TI) (nt : Nat) (ops : Array Oper) : List Oper -> List Prop -> (Nat -> D) -> Mem -> Option Ran
 | [], ps, tm, m => some ⟨ps, tm, m, []⟩
 | o :: r, ps, tm, m =>
  bif zVq o.op then some ⟨ps, tm, m, o :: r⟩ else
  match zGA T nt ops ⟨tm, m⟩ o with
  | some ⟨φ, d, us⟩ => fD d fun d => fU us fun us =>
   match o.dst, us with
   | some t, [] => zGb T nt ops r (φ :: ps) (upd tm t d) m
   | some t, [(i, b)] => zGb T nt ops r (φ :: ps) (upd tm t d) (upd m i (some b))
   | some t, us => zGb T nt ops r (φ :: ps) (upd tm t d) (zDH m us)
   | none, [(i, b)] => zGb T nt ops r (φ :: ps) tm (upd m i (some b))
   | none, us => zGb T nt ops r (φ :: ps) tm (zDH m us)
  | none => none
section
variable {P : Program} {T : Nat -> Option TI} {X : Ctx}
theorem zLU (hT : TOk P T) {nt : Nat} (hnt : X.nt = nt) {ops : Array Oper} : ∀ {l : List Oper} {ps : List Prop} {tm : Nat -> D} {m : Mem} {q : Ran}, zGb T nt ops l ps tm m = some q -> (zBh q.ps -> zBh ps) /\ ∀ s'', zBh q.ps -> Lex P X ops q.rest ⟨q.tm, q.mem⟩ s'' -> Lex P X ops l ⟨tm, m⟩ s''
 | [], ps, tm, m, q, h => by cases h; exact ⟨id, fun s'' _ k => k⟩
 | o :: r, ps, tm, m, q, h => by
  rw [zGb] at h
  cases hg : zVq o.op with
  | true => simp only [hg, cond_true, Option.some.injEq] at h; subst h; exact ⟨id, fun s'' _ k => k⟩
  | false =>
   simp only [hg, cond_false] at h
   split at h
   ·rename_i φ d us he
    simp only [zUT, zUR] at h
    have hs : ∀ hφ : φ, OpT P X ops o ⟨tm, m⟩ (St.app ⟨tm, m⟩ o.dst d us) := fun hφ => zEb hT (ef := ⟨φ, d, us⟩) (by rw [hnt]; exact he) hφ
    have key : zGb T nt ops r (φ :: ps) (match o.dst with | some t => upd tm t d | none => tm) (zBd m us) = some q := by
     split at h
     ·rename_i t hd; rw [hd]; exact h
     ·rename_i t i b hd; rw [hd]; exact h
     ·rename_i t hd _ _; rw [hd]; rw [zB9] at h; exact h
     ·rename_i i b hd; rw [hd]; exact h
     ·rename_i hd _; rw [hd]; rw [zB9] at h; exact h
    obtain ⟨h1, h2⟩ := zLU hT hnt key
    exact ⟨fun ha => (zDw.1 (h1 ha)).2, fun s'' ha k => .cons (hs (zDw.1 (h1 ha)).1) (h2 s'' ha k)⟩
   ·cases h
theorem lex (hT : TOk P T) {nt : Nat} (hnt : X.nt = nt) {ops : Array Oper} {l : List Oper} {tm : Nat -> D} {m : Mem} {ps : List Prop} {tm' : Nat -> D} {m' : Mem} {rest : List Oper} {s'' : St} (h : zGb T nt ops l [] tm m = some ⟨ps, tm', m', rest⟩) (hp : zBh ps) (k : Lex P X ops rest ⟨tm', m'⟩ s'') : Lex P X ops l ⟨tm, m⟩ s'' :=
 (zLU hT hnt h).2 s'' hp k
theorem reg (hT : TOk P T) {nt : Nat} (hnt : X.nt = nt) {id : Nat} {ops : Array Oper} {tm : Nat -> D} {m : Mem} {ps : List Prop} {tm' : Nat -> D} {m' : Mem} {Q : Exit -> St -> Prop} (h : zGb T nt ops ops.toList [] tm m = some ⟨ps, tm', m', []⟩) (hp : zBh ps) (k : Q .normal ⟨tm', m'⟩) : Tr P X (.region id ops false) ⟨tm, m⟩ Q :=
 zAa (lex hT hnt h hp (.nil _)) k
end
def zDy : D0 -> List Nat
 | .ptr i _ _ => [i]
 | .rptr i _ _ _ => [i]
 | .own i _ => [i]
 | .bsl i _ _ _ _ => [i]
 | .hnd i _ => [i]
 | .clo _ cs => cs.map fun c => c.1
 | _ => []
def zQM : Cs -> List Nat
 | .es _ => []
 | .ds xs => xs.flatMap zDy
def zCO : D -> List Nat
 | .one x => zDy x
 | .agg c => zQM c
 | .gd _ d => zCO d
 | _ => []
def Alk (m m' : Mem) (d : D) : Prop := ∀ i ∈ zCO d, m i = m' i
def zHn (m : Mem) (i : Nat) : Option Nat := (m i).map Blk.ver
def zRi (m m' : Mem) (d : D) : Prop := ∀ i ∈ zCO d, zHn m i = zHn m' i
section
variable {T : Nat -> Option TI} {m m' : Mem}
theorem Alk.toV {d : D} (h : Alk m m' d) : zRi m m' d := fun i hi => by unfold zHn; rw [h i hi]
theorem zNN {d : D} (h : zRi m m' d) : zRi m m' d.strip := by
 cases d <;> exact h
theorem zMO {d : D} (h : zRi m m' d) : zRi m m' d.ptn := by
 unfold D.ptn
 split
 ·intro i hi; cases hi
 ·exact h
theorem zC1 {d : D} (h : Alk m m' d) : Alk m m' d.strip := by
 cases d <;> exact h
theorem zHh {d : D} (h : Alk m m' d) : Alk m m' d.ptn := by
 unfold D.ptn
 split
 ·intro i hi; cases hi
 ·exact h
theorem zIW {s t : Nat} {x : D} (h : Alk m m' x) : zFK T m s t x = zFK T m' s t x := by
 unfold zFK
 split
 ·rfl
 ·rfl
 ·split
  ·rfl
  ·rfl
  ·rename_i id ver _ _; rw [h id (by simp [zCO, zDy])]
  ·rename_i id ver _ _ _ _ _; rw [h id (by simp [zCO, zDy])]
  ·rfl
 ·rfl
theorem zIS {ti : TI} {x : D} (h : Alk m m' x) : zEN ti m x = zEN ti m' x := by
 unfold zEN
 split
 ·rfl
 ·rename_i id ver off; rw [h id (by simp [zCO, zDy])]
 ·rename_i id ver i j; rw [h id (by simp [zCO, zDy])]
 ·rfl
theorem zMh {id ver : Nat} (h : zHn m id = zHn m' id) : (match m id with | some b => Nat.beq b.ver ver | none => false) = match m' id with | some b => Nat.beq b.ver ver | none => false := by
 unfold zHn at h
 cases h1 : m id with
 | none => cases h2 : m' id with
  | none => rfl
  | some b => rw [h1, h2] at h; cases h
 | some a => cases h2 : m' id with
  | none => rw [h1, h2] at h; cases h
  | some b =>
   rw [h1, h2] at h
   show Nat.beq a.ver ver = Nat.beq b.ver ver
   rw [Option.some.inj h]
theorem zD3 {x : D} (h : zRi m m' x) : zFz m x = zFz m' x := by
 unfold zFz
 split <;> first | rfl | (rename_i id _ _; exact zMh (h id (by simp [zCO, zDy]))) | (rename_i id _ _ _; exact zMh (h id (by simp [zCO, zDy])))
theorem zEL {x : D} (h : Alk m m' x) : zFz m x = zFz m' x := zD3 h.toV
theorem zG2 {t : Nat} {x i : D} (h : Alk m m' x) : zDt T m t x i = zDt T m' t x i := by
 unfold zDt
 split
 ·split
  ·split
   ·rfl
   ·rename_i id ver _; rw [h id (by simp [zCO, zDy])]
   ·rename_i id ver _ _ _ _; rw [h id (by simp [zCO, zDy])]
   ·rfl
  ·rfl
  ·rfl
 ·rfl
theorem zKc {t : Nat} {x : D} (h : Alk m m' x) : zHZ T m t x = zHZ T m' t x := by
 unfold zHZ
 split
 ·split
  ·rfl
  ·rfl
  ·rename_i id ver; rw [h id (by simp [zCO, zDy])]
  ·rename_i id ver _ _ _; rw [h id (by simp [zCO, zDy])]
  ·rfl
 ·rfl
 ·rfl
theorem zG0 {t : Nat} {x i : D} (h : Alk m m' x) : zDs T m t x i = zDs T m' t x i := by
 unfold zDs
 split
 ·rename_i id ver _ _; rw [h id (by simp [zCO, zDy])]
 ·rfl
theorem zNB {op : Op} {ev : Ev} (h : ∀ x ∈ op.operands, Alk m m' (ev x)) : zIP T m op ev = zIP T m' op ev := by
 unfold zIP
 split <;> try rfl
 ·exact zIW (h _ (by simp [Op.operands]))
 ·split
  ·exact zIS (zHh (h _ (by simp [Op.operands])))
  ·rfl
 ·rename_i x
  have hx := zHh (h x (by simp [Op.operands]))
  split
  ·rename_i he; rw [he] at hx; rw [zEL hx]
  ·rfl
  ·rfl
 ·rw [zEL (zHh (h _ (by simp [Op.operands])))]
 ·rw [zEL (zHh (h _ (by simp [Op.operands]))), zG2 (zHh (h _ (by simp [Op.operands])))]
 ·exact zG0 (h _ (by simp [Op.operands]))
 ·rename_i args ts
  split
  ·rename_i x t ha ht
   exact zKc (h x (by simp only [Op.operands, Call.operands]; simp [<-Array.mem_toList_iff, ha]))
  ·rfl
theorem zLk {op : Op} {ev : Ev} (hop : (∃ x, op = .nilCheck x) \/ ∃ s x f, op = .fieldAddr s x f) (h : ∀ x ∈ op.operands, zRi m m' (ev x)) : zIP T m op ev = zIP T m' op ev := by
 rcases hop with ⟨x, rfl⟩ | ⟨s, x, f, rfl⟩
 ·have hx := zMO (h x (by simp [Op.operands]))
  unfold zIP
  simp only
  split
  ·rename_i he; rw [he] at hx; rw [zD3 hx]
  ·rfl
  ·rfl
 ·unfold zIP
  simp only
  rw [zD3 (zMO (h x (by simp [Op.operands])))]
theorem zGT {x : D0} (h : ∀ i ∈ zDy x, m i = m' i) : frz m x = frz m' x := by
 cases x with
 | own id ver => unfold frz; simp only; rw [h id (by simp [zDy])]
 | bsl id ver off z n => unfold frz; simp only; rw [h id (by simp [zDy])]
 | ptr id ver off => unfold frz; simp only; rw [h id (by simp [zDy])]
 | _ => rfl
theorem zHT : ∀ {xs : List D0}, (∀ i ∈ xs.flatMap zDy, m i = m' i) -> zPP m xs = zPP m' xs
 | [], _ => rfl
 | x :: r, h => by
  rw [zPP, zPP, zGT (fun i hi => h i (by simp [hi])), zHT (fun i hi => h i (by
   rw [List.flatMap_cons]; exact List.mem_append_right _ hi))]
theorem zEn {c : Cs} (h : ∀ i ∈ zQM c, m i = m' i) : zNt m c = zNt m' c := by
 cases c with
 | es xs => rfl
 | ds xs => exact zHT h
theorem zOY {d : D} {c : Cs} (h : d.cs? = some c) : ∀ i ∈ zQM c, i ∈ zCO d := by
 unfold D.cs? at h
 split at h
 ·cases h; intro i hi; cases hi
 ·cases h; intro i hi; simpa [zQM, zCO] using hi
 ·cases h; intro i hi; exact hi
 ·cases h
theorem zEE {sz : Nat} : ∀ {k : Nat} {ds : List (Nat × D)}, (∀ q ∈ ds, Alk m m' q.2) -> zCr m sz k ds = zCr m' sz k ds
 | k, [], _ => rfl
 | k, (i, d) :: r, h => by
  rw [zCr, zCr, zEE (k := k + 1) (ds := r) (fun q hq => h q (by simp [hq]))]
  cases hc : d.cs? with
  | none => rfl
  | some c =>
   have hf : zNt m c = zNt m' c := zEn fun j hj => h (i, d) (by simp) j (zOY hc j hj)
   simp only [hf]
theorem zGC {k : K} {sz : Nat} {d : D} (h : Alk m m' d) : zIg m k sz d = zIg m' k sz d := by
 unfold zIg
 split <;> try rfl
 ·rename_i id ver; rw [h id (by simp [zCO, zDy])]
 ·rename_i id ver _ _ _; rw [h id (by simp [zCO, zDy])]
theorem zBK {id : Nat} (h : m id = m' id) : zDd m id = zDd m' id := by unfold zDd; rw [h]
theorem zG5 {id t tx : Nat} {x y : D} (hx : Alk m m' x) (hy : Alk m m' y) (hid : m id = m' id) : zDu T m id t tx x y = zDu T m' id t tx x y := by
 unfold zDu
 split
 ·rw [zGC hy, zBK hid]
  split
  ·split
   ·rfl
   ·rename_i id' ver; rw [hx id' (by simp [zCO, zDy])]
   ·rfl
  ·rfl
 ·rfl
theorem zHu {ti : TI} {a x : D} (ha : Alk m m' a) (hx : Alk m m' x) : zEq ti m a x = zEq ti m' a x := by
 unfold zEq
 cases hc : x.cs? with
 | none => rfl
 | some c =>
  have hf := zEn (m := m) (m' := m') (c := c) fun i hi => hx i (zOY hc i hi)
  cases a with
  | one z => cases z with
   | ptr id ver off => simp only; rw [ha id (by simp [zCO, zDy])]
   | rptr id ver i j => simp only; rw [ha id (by simp [zCO, zDy]), hf]
   | _ => rfl
  | _ => rfl
theorem zF3 {id t len : Nat} {ds : List (Nat × D)} (h : ∀ q ∈ ds, Alk m m' q.2) (hid : m id = m' id) : zBM T m id t len ds = zBM T m' id t len ds := by
 unfold zBM
 simp only [zEE h, zBK hid]
theorem zHv {id s d : Nat} {x : D} (hid : m id = m' id) : zEs T m id s d x = zEs T m' id s d x := by
 unfold zEs
 simp only [zBK hid]
theorem zGX {t : Nat} {x : D} {lo hi : Option D} (h : Alk m m' x) : zDq T m t x lo hi = zDq T m' t x lo hi := by
 unfold zDq
 cases x with
 | one z => cases z with
  | own id ver =>
   have e : zHA T m t id ver lo hi = zHA T m' t id ver lo hi := by
    unfold zHA
    rw [h id (by simp [zCO, zDy])]
   simp only
   rw [zGT (fun i hi => h i (by simpa [zCO] using hi)), e]
  | ptr id ver off => simp only; rw [h id (by simp [zCO, zDy])]
  | _ => rfl
 | _ => rfl
theorem zMR (vs : List Value) : zQM (zCR vs) = [] := by
 unfold zCR
 cases vs.any zIy with
 | false => rfl
 | true =>
  simp only [cond_true, zQM, List.flatMap_map]
  refine List.flatMap_eq_nil_iff.2 fun v _ => ?_
  unfold zD
  split <;> rfl
theorem zIV {t tx : Nat} {x y : D} (hx : Alk m m' x) (hy : Alk m m' y) : zFJ T m t tx x y = zFJ T m' t tx x y := by
 unfold zFJ
 split
 ·rename_i id ver off z n _ _
  rw [hx id (by simp [zCO, zDy]), zGC hy]
 ·rfl
theorem zIR {id t : Nat} {l c : D} (hid : m id = m' id) : zFG T m id t l c = zFG T m' id t l c := by
 have hz : ∀ vs : List Value, zNt m (zCR vs) = zNt m' (zCR vs) := fun vs => zEn (fun i hi => by rw [zMR] at hi; cases hi)
 unfold zFG
 simp only [zBK hid, hz]
theorem zIQ {x : D} (h : Alk m m' x) : zFF m x = zFF m' x := by
 unfold zFF
 split
 ·rename_i id ver; rw [h id (by simp [zCO, zDy])]
 ·rfl
theorem zGZ {t : Nat} {x i y : D} (h : Alk m m' x) : zDr T m t x i y = zDr T m' t x i y := by
 unfold zDr
 split
 ·rename_i id ver _ _ _; rw [h id (by simp [zCO, zDy])]
 ·rfl
theorem zND {id : Nat} {op : Op} {ev : Ev} (h : ∀ x ∈ op.operands, Alk m m' (ev x)) (hid : m id = m' id) : zKb T m id op ev = zKb T m' id op ev := by
 unfold zKb
 split <;> try rfl
 ·rw [zBK hid]
 ·rw [zBK hid]
 ·rename_i t len ps
  exact zF3 (fun q hq => by
   obtain ⟨x, hx, rfl⟩ := List.mem_map.1 hq
   exact h x.2 (by simp only [Op.operands]; simpa using ⟨x.1, by simpa using hx⟩)) hid
 ·split
  ·exact zHu (h _ (by simp [Op.operands])) (h _ (by simp [Op.operands]))
  ·rfl
 ·rename_i args ts
  split
  ·rename_i x y t tx ha ht
   exact zG5 (h x (by simp only [Op.operands, Call.operands]; simp [<-Array.mem_toList_iff, ha])) (h y (by simp only [Op.operands, Call.operands]; simp [<-Array.mem_toList_iff, ha])) hid
  ·rfl
 ·rename_i args ts
  split
  ·rename_i x y t tx ha ht
   exact zIV (h x (by simp only [Op.operands, Call.operands]; simp [<-Array.mem_toList_iff, ha])) (h y (by simp only [Op.operands, Call.operands]; simp [<-Array.mem_toList_iff, ha]))
  ·rfl
 ·exact zHv hid
 ·exact zGX (h _ (by simp [Op.operands]))
 ·exact zIR hid
 ·unfold zGo; rw [zBK hid]
 ·exact zIQ (h _ (by simp [Op.operands]))
 ·rw [zBK hid]
 ·exact zGZ (h _ (by simp [Op.operands]))
def rdO : Op -> List Operand
 | .move _ => []
 | .nilCheck _ => []
 | .fieldAddr _ _ _ => []
 | op => op.operands.toList
def rdV : Op -> List Operand
 | .nilCheck x => [x]
 | .fieldAddr _ x _ => [x]
 | _ => []
theorem zFt {op : Op} {x : Operand} (h : x ∈ rdV op) : x ∈ op.operands := by
 unfold rdV at h
 split at h <;> first | cases h; done | (rw [List.mem_singleton.1 h]; simp [Op.operands])
theorem zCL {op : Op} {c : Call} (hc : op = .call c) {K : Operand -> Prop} : ∀ x ∈ rdV op, K x := by
 subst hc
 intro x hx
 cases hx
theorem zBR {op : Op} {x : Operand} (h : x ∈ rdO op) : x ∈ op.operands := by
 unfold rdO at h
 split at h <;> first | cases h; done | simpa using h
theorem zEd {op : Op} {c : Call} {x : Operand} (hc : op = .call c) (h : x ∈ op.operands) : x ∈ rdO op := by
 subst hc
 show x ∈ (Op.call c).operands.toList
 simpa using h
theorem zPc {id : Nat} {op : Op} {ev : Ev} (h : ∀ x ∈ rdO op, Alk m m' (ev x)) (hv : ∀ x ∈ rdV op, zRi m m' (ev x)) (hid : m id = m' id) : eff T m id op ev = eff T m' id op ev := by
 by_cases hm : ∃ x, op = .move x
 ·obtain ⟨x, rfl⟩ := hm
  unfold eff zIP zKb
  rfl
 by_cases hq : (∃ x, op = .nilCheck x) \/ ∃ s x f, op = .fieldAddr s x f
 ·have e := zLk (T := T) (m := m) (m' := m') (ev := ev) hq fun x hx => hv x (by
   rcases hq with ⟨y, rfl⟩ | ⟨s, y, f, rfl⟩
   ·simpa [Op.operands, rdV] using hx
   ·simpa [Op.operands, rdV] using hx)
  have e2 : zKb T m id op ev = zKb T m' id op ev := by
   rcases hq with ⟨y, rfl⟩ | ⟨s, y, f, rfl⟩ <;> rfl
  unfold eff
  rw [e, e2]
 ·have h : ∀ x ∈ op.operands, Alk m m' (ev x) := fun x hx => h x (by
   unfold rdO
   split
   ·exact absurd ⟨_, rfl⟩ hm
   ·exact absurd (.inl ⟨_, rfl⟩) hq
   ·exact absurd (.inr ⟨_, _, _, rfl⟩) hq
   ·simpa using hx)
  unfold eff
  rw [zNB h, zND h hid]
structure Same (ops : Array Oper) (o : Oper) (s s' : St) : Prop where
 tm : ∀ t ∈ o.looksAt ops, s.tm t = s'.tm t
 mem : ∀ x ∈ rdO o.op, Alk s.mem s'.mem (s.ev x)
 ver : ∀ x ∈ rdV o.op, zRi s.mem s'.mem (s.ev x)
 dst : s.mem (zFk o.dst) = s'.mem (zFk o.dst)
 glob : ∀ g, s.tm (1000000 + g) = s'.tm (1000000 + g)
theorem Same.ev {ops : Array Oper} {o : Oper} {s s' : St} (h : Same ops o s s') : ∀ x ∈ o.op.operands, s.ev x = s'.ev x := fun x hx => by
 cases x with
 | tmp t =>
  have := h.tm t (List.mem_append_left _ (List.mem_filterMap.2 ⟨.tmp t, by simpa using hx, rfl⟩))
  show (bif Nat.blt t 900000 then s.tm t else .any) = bif Nat.blt t 900000 then s'.tm t else .any
  rw [this]
 | global g => exact h.glob g
 | _ => rfl
theorem zLm {m : Mem} {id : Nat} {op : Op} {ev ev' : Ev} (h : ∀ x ∈ op.operands, ev x = ev' x) : eff T m id op ev = eff T m id op ev' := by
 have hq : zIP T m op ev = zIP T m op ev' := by
  cases op <;> simp only [zIP] <;> simp only [Op.operands] at h
  all_goals (try rfl)
  case slice t x lo hi mx =>
   cases mx with
   | none => cases lo <;> cases hi <;> simp_all [zIP]
   | some _ => cases lo <;> cases hi <;> simp_all [zIP]
  case lookup t x i ok => cases ok <;> simp_all [zIP]
  case typeAssert x t a ok => cases ok <;> simp_all [zIP]
  case call c =>
   obtain ⟨cal, args, ts⟩ := c
   cases cal with
   | builtin b =>
    have ha : ∀ x ∈ args.toList, ev x = ev' x := fun x hx => h x (by simp only [Call.operands]; simpa using hx)
    cases b <;> simp only [zIP] <;> (try rfl) <;> (generalize args.toList = l at ha; generalize ts.toList = l2; clear h; rcases l with _ | ⟨x, _ | ⟨y, _ | ⟨z, l⟩⟩⟩ <;> rcases l2 with _ | ⟨t, _ | ⟨u, _ | ⟨v, l2⟩⟩⟩ <;> simp_all)
   | _ => rfl
  all_goals (simp_all; done)
 have hm : zKb T m id op ev = zKb T m id op ev' := by
  have pairs : ∀ ps : Array (Nat × Operand), (∀ q ∈ ps.toList, ev q.2 = ev' q.2) -> (ps.toList.map fun q => (q.1, ev q.2)) = ps.toList.map fun q => (q.1, ev' q.2) := fun ps hp => List.map_congr_left fun q hq => by rw [hp q hq]
  cases op <;> simp only [zKb] <;> simp only [Op.operands] at h
  all_goals (try rfl)
  case build t ps => rw [pairs ps fun q hq => h q.2 (by simpa using ⟨q.1, by simpa using hq⟩)]
  case buildSlice t n ps => rw [pairs ps fun q hq => h q.2 (by simpa using ⟨q.1, by simpa using hq⟩)]
  case slice t x lo hi mx =>
   cases mx with
   | none => cases lo <;> cases hi <;> simp_all [zKb]
   | some _ => rfl
  case next x b => cases b <;> simp_all [zKb]
  case makeMap t r => cases r <;> simp_all [zKb]
  case call c =>
   obtain ⟨cal, args, ts⟩ := c
   cases cal with
   | builtin b =>
    have ha : ∀ x ∈ args.toList, ev x = ev' x := fun x hx => h x (by simp only [Call.operands]; simpa using hx)
    cases b <;> simp only [zKb] <;> (try rfl) <;> (generalize args.toList = l at ha; generalize ts.toList = l2; clear h; rcases l with _ | ⟨x, _ | ⟨y, _ | ⟨z, l⟩⟩⟩ <;> rcases l2 with _ | ⟨t, _ | ⟨u, _ | ⟨v, l2⟩⟩⟩ <;> simp_all)
   | _ => rfl
  case makeFunc fn first caps =>
   cases fn with
   | func f =>
    have : caps.toList.map ev = caps.toList.map ev' := List.map_congr_left fun x hx => h x (by
     have := Array.mem_toList_iff.1 hx
     simp [this])
    have h1 : first.toList.map ev = first.toList.map ev' := List.map_congr_left fun x hx => h x (by
     have := Array.mem_toList_iff.1 hx
     simp [this])
    simp only [zKb]
    rw [this, h1]
   | _ => rfl
  all_goals (simp_all; done)
 unfold eff
 rw [hq, hm]
end
def FnG (P : Program) (f : Nat) (gs : List (Nat × List E)) (args : List D) (r : D) : Prop :=
 zRc P f /\ ∀ (w : World) (vs : Array Value) (I : Nat -> Nat -> Prop), (∀ x ∈ gs, zAy p0 (CI w I) w (.one (.eptr x.2)) (.pointer (some ⟨x.1, 0, none⟩))) -> zHy (CI w I) w args vs.toList ->
  Calls P f vs w fun e w' => ∃ v, e = .returned v /\ Below w.heap.size w w' /\ zAy p0 (CI' w w' I) w' r v
def FnK (P : Program) (K : World -> Prop) (f : Nat) (gs : List (Nat × List E)) (args : List D) (r : D) : Prop :=
 zRc P f /\ ∀ (w : World) (vs : Array Value) (I : Nat -> Nat -> Prop), K w -> (∀ x ∈ gs, zAy p0 (CI w I) w (.one (.eptr x.2)) (.pointer (some ⟨x.1, 0, none⟩))) -> zHy (CI w I) w args vs.toList ->
  Calls P f vs w fun e w' => ∃ v, e = .returned v /\ Below w.heap.size w w' /\ zAy p0 (CI' w w' I) w' r v
theorem FnG.toK {P : Program} {K : World -> Prop} {f : Nat} {gs : List (Nat × List E)} {args : List D} {r : D} (h : FnG P f gs args r) : FnK P K f gs args r :=
 ⟨h.1, fun w vs I _ hg ha => h.2 w vs I hg ha⟩
theorem zCx {p p' : Rho} {C C' : Nat -> Nat -> Value -> Prop} {w w' : World} {es : List E} {v : Value} (h : ∀ b o u, C b o u -> C' b o u) (hr : zAy p C w (.one (.eptr es)) v) : zAy p' C' w' (.one (.eptr es)) v := by
 obtain ⟨b, o, rfl, hx⟩ := hr
 refine ⟨b, o, rfl, fun j e he => ?_⟩
 obtain ⟨u, h1, h2⟩ := hx j e he
 exact ⟨u, h _ _ _ h1, h2.mono h⟩
section
variable {P : Program} {T : Nat -> Option TI} {X : Ctx}
theorem zOv {K : World -> Prop} (hK : ∀ w, Bel X w -> K w) {gs : List (Nat × List E)} {ops : Array Oper} {s : St} {o : Oper} {fo : Operand} {f : Nat} {args : Array Operand} {ts : Array TypeId} (hop : o.op = .call ⟨.value fo, args, ts⟩) (hgd : zBT ops s o = .free) (hfo : (s.ev fo).strip = .one (.clo f [])) {az : List D} {us : zBa} {r : D}
  (has : zBi s.mem (args.toList.map fun x => (s.ev x).strip) = some (az, us)) (hn : ∀ p ∈ zAR s (fo :: args.toList), p) (hgl : ∀ x ∈ gs, s.tm (1000000 + x.1) = .one (.eptr x.2)) (hfn : FnK P K f gs az r) (hd : zB0 X.nt o.dst = true) : OpT P X ops o s (s.app o.dst r us) := by
 intro Q a w ⟨μ, hM, hsz, hdf, hr⟩
 rw [if_pos (zCa hgd a)]
 obtain ⟨⟨fn, c, k1, k2, k34⟩, hfn⟩ := hfn
 obtain ⟨k3, k4⟩ := Bool.or_eq_false_iff.1 k34
 obtain ⟨r1, r2, r3, r4⟩ := RM.pubs us s.mem hM (zCM has)
 have hrep := zCc (vs := (args.map a.eval).toList) r1 ⟨by simp, fun i d v hd hv => by
  simp only [List.getElem?_map, Array.toList_map, Option.map_eq_some_iff] at hd hv
  obtain ⟨x, hx, rfl⟩ := hd
  obtain ⟨y, hy, rfl⟩ := hv
  rw [hx] at hy
  cases hy
  exact (zAA (zBn hr x) (zAC hn x (List.mem_cons_of_mem _ (List.mem_of_getElem? hx)))).kept r2⟩ has r3
 have hf := zAA (zBn hr fo) (zAC hn fo (List.mem_cons_self ..))
 rw [hfo] at hf
 obtain ⟨vs0, hfv, hl0, _⟩ := hf
 rw [zCG k4] at hfv
 have hvs0 : vs0 = [] := List.eq_nil_of_length_eq_zero (by simpa using hl0.symm)
 subst hvs0
 have hcall : (execOp a.eval o).run P w = .ok (.enter f (args.map a.eval)) w := by
  have hb : fn.body.isNone = false := by rw [k2]; rfl
  have hne : ¬ (fn.name = "runtime.NumGoroutine") := by simpa using k3
  simp [execOp, hop, resolve, hfv, Deferred.ofValue, invoke, callFunc, k1, hne, k2]
 unfold Oper.wp
 rw [hcall, Oper.upon_enter]
 let I : Nat -> Nat -> Prop := fun b o => (¬ X.own b -> X.I b o) /\ (X.own b -> ∀ id blk, zBd s.mem us id = some blk -> μ id = some b -> o < blk.pub)
 refine (hfn w (args.map a.eval) I (hK w r1.bel) (fun x hx => by
  have h1 := hr (1000000 + x.1)
  rw [hgl x hx, zBH] at h1
  exact zCx (fun b o u h => ⟨h.1, h.2⟩) (h1.kept r2)) ⟨hrep.1, fun i d v hd hv => (hrep.2 i d v hd hv).kept (zCC fun b o u h => ⟨h.1, h.2⟩)⟩).mono ?_
 rintro e w' ⟨v, rfl, hbel, hv⟩
 obtain ⟨q1, q2⟩ := r1.call hbel
 have hv' : zAy ⟨zBd s.mem us, μ⟩ (CW X ⟨zBd s.mem us, μ⟩ w') w' r v := hv.kept (zCC fun b o u h => by
  obtain ⟨h1, h2⟩ := h
  rcases h2 with ⟨h2, h3⟩ | h2
  ·exact ⟨h1, h2, h3⟩
  ·refine ⟨h1, fun hno => absurd (.inl (Nat.le_trans r1.bel.size h2)) hno, fun _ id blk m1 m2 => ?_⟩
   have m2 : μ id = some b := m2
   have := r1.blk id blk m1
   simp only [zAP, m2] at this
   obtain ⟨_, _, _, _, cur, e, lo, hi, g4, _⟩ := this
   exact absurd (Nat.lt_of_lt_of_le (Array.getElem?_eq_some_iff.1 g4).1 h2) (Nat.lt_irrefl _))
 exact ⟨μ, q1, by cases o.dst <;> simp [Act.put, hsz], by cases o.dst <;> exact hdf, zBF (us := us) hr (r2.trans q2) hv' hsz hd⟩
theorem zGF {gs : List (Nat × List E)} {ops : Array Oper} {s : St} {o : Oper} {fo : Operand} {f : Nat} {args : Array Operand} {ts : Array TypeId} (hop : o.op = .call ⟨.value fo, args, ts⟩) (hgd : zBT ops s o = .free) (hfo : (s.ev fo).strip = .one (.clo f [])) {az : List D} {us : zBa} {r : D}
  (has : zBi s.mem (args.toList.map fun x => (s.ev x).strip) = some (az, us)) (hn : ∀ p ∈ zAR s (fo :: args.toList), p) (hgl : ∀ x ∈ gs, s.tm (1000000 + x.1) = .one (.eptr x.2)) (hfn : FnG P f gs az r) (hd : zB0 X.nt o.dst = true) : OpT P X ops o s (s.app o.dst r us) :=
 zOv (K := fun _ => True) (fun _ _ => trivial) hop hgd hfo has hn hgl hfn.toK hd
theorem zHL {gs : List (Nat × List E)} {ops : Array Oper} {s : St} {o : Oper} {fo : Operand} {f : Nat} {args : Array Operand} {ts : Array TypeId} {q : Prop} (hop : o.op = .call ⟨.value fo, args, ts⟩) (hgd : zBT ops s o = .iff q) (hfo : (s.ev fo).strip = .one (.clo f [])) {az : List D} {r : D}
  (has : zBi s.mem (args.toList.map fun x => (s.ev x).strip) = some (az, [])) (hn : q -> ∀ p ∈ zAR s (fo :: args.toList), p) (hgl : ∀ x ∈ gs, s.tm (1000000 + x.1) = .one (.eptr x.2)) (hfn : q -> FnG P f gs az r) (hd : zB0 X.nt o.dst = true) : OpT P X ops o s (s.app o.dst (.gd q r) []) := by
 intro Q a w hR0
 have hR0' := hR0
 obtain ⟨μ, hM, hsz, hdf, hr⟩ := hR0
 have hiff := zMq hgd hr
 by_cases hq : q
 ·rw [if_pos (hiff.2 hq)]
  have := zGF (ops := ops) (o := { o with guard := none }) (us := []) hop (by unfold zBT; rfl) hfo has (hn hq) hgl (hfn hq) hd Q a w hR0'
  rw [if_pos (by simp [Region.wanted])] at this
  have hm : ∀ a' w', R X (s.app o.dst r []) a' w' -> R X (s.app o.dst (.gd q r) []) a' w' := by
   rintro a' w' ⟨μ', hM', hsz', hdf', hr'⟩
   refine ⟨μ', hM', hsz', hdf', fun t => ?_⟩
   have := hr' t
   cases hdst : o.dst with
   | none => rw [hdst] at this; exact this
   | some t' =>
    rw [hdst] at this
    by_cases ht : t = t'
    ·subst ht
     simp only [St.app, zAn] at this ⊢
     exact ⟨fun _ => this, fun hn => absurd hq hn⟩
    ·simp only [St.app, zAB _ _ ht] at this ⊢
     exact this
  exact Oper.wp_mono (P := P) (Q := Q) hm this
 ·rw [if_neg (fun hw => hq (hiff.1 hw))]
  exact ⟨μ, hM, by cases o.dst <;> simp [Act.put, hsz], by cases o.dst <;> exact hdf, zBF (d := .gd q r) (v := undef) hr Kept.rfl' ⟨fun h => absurd h hq, fun _ => rfl⟩ hsz hd []⟩
end
def zPO : List (Nat × List E) -> Nat -> D
 | [], _ => .any
 | (g, es) :: r, n => bif Nat.beq g n then .one (.eptr es) else zPO r n
def St.startG (gs : List (Nat × List E)) (args : List D) : St := ⟨fun t => bif Nat.ble 1000000 t then zPO gs (t - 1000000) else zDp args t, fun _ => none⟩
theorem zFf {C : Nat -> Nat -> Value -> Prop} {w : World} : ∀ {gs : List (Nat × List E)}, (∀ x ∈ gs, zAy p0 C w (.one (.eptr x.2)) (.pointer (some ⟨x.1, 0, none⟩))) -> ∀ n, zAy p0 C w (zPO gs n) (.pointer (some ⟨n, 0, none⟩))
 | [], _, _ => trivial
 | (g, es) :: r, h, n => by
  unfold zPO
  cases hb : Nat.beq g n with
  | true =>
   have := Nat.eq_of_beq_eq_true hb
   subst this
   exact h _ (List.mem_cons_self ..)
  | false => exact zFf (fun x hx => h x (List.mem_cons_of_mem _ hx)) n
theorem zB4 {gs : List (Nat × List E)} {tm : Nat -> D} (hgl : gs.map (fun x => tm (1000000 + x.1)) = gs.map fun x => .one (.eptr x.2)) : ∀ x ∈ gs, tm (1000000 + x.1) = .one (.eptr x.2) := fun x hx => by
 obtain ⟨i, hi⟩ := List.getElem?_of_mem hx
 have := congrArg (fun l => l[i]?) hgl
 simp only [List.getElem?_map, hi, Option.map_some, Option.some.injEq] at this
 exact this
def Blk.isE (b : Blk) : Bool :=
 match b.body with
 | .row _ _ => true
 | .box (.es _) => true
 | .box (.ds _) => false
 | .raw _ => false
theorem Blk.isE_cells {b : Blk} (h : b.isE = true) : ∀ x ∈ b.cells, ∃ e, x = D0.e e := by
 obtain ⟨v, bd, p⟩ := b
 intro x hx
 cases bd with
 | row z xs => obtain ⟨e, _, rfl⟩ := List.mem_map.1 hx; exact ⟨e, rfl⟩
 | box c => cases c with
  | es xs => obtain ⟨e, _, rfl⟩ := List.mem_map.1 hx; exact ⟨e, rfl⟩
  | ds xs => cases h
 | raw o => cases h
def X0 (w : World) (I : Nat -> Nat -> Prop) : Ctx := ⟨w, I, 1, by decide, fun _ => False, fun _ => 0, []⟩
def FnO (P : Program) (f : Nat) (gs : List (Nat × List E)) (args : List D) (r : D) (ms : List (Nat × Blk)) : Prop :=
 zRc P f /\ ∀ (w : World) (vs : Array Value) (I : Nat -> Nat -> Prop), (∀ x ∈ gs, zAy p0 (CI w I) w (.one (.eptr x.2)) (.pointer (some ⟨x.1, 0, none⟩))) -> zHy (CI w I) w args vs.toList ->
  Calls P f vs w fun e w' => ∃ v, e = .returned v /\ ∃ μ : Nat -> Option Nat, RM (X0 w I) ⟨zAl ms, μ⟩ w' /\ zAy ⟨zAl ms, μ⟩ (CW (X0 w I) ⟨zAl ms, μ⟩ w') w' r v
def zN4 : D -> Option (Bool × Cs)
 | .one (.e x) => some (false, .es [x])
 | .one x => some (false, .ds [x])
 | .agg c => some (true, c)
 | _ => none
def zP2 : List D -> Option (List (Bool × Cs))
 | [] => some []
 | d :: r => match zN4 d, zP2 r with
  | some x, some xs => some (x :: xs)
  | _, _ => none
def zSJ : List D -> Option D
 | [d] => some d
 | ds => match zP2 ds with
  | some xs => some (.tup xs)
  | none => none
theorem zMZ {p : Rho} {C : Nat -> Nat -> Value -> Prop} {w : World} {d : D} {v : Value} {x : Bool × Cs} (h : zAy p C w d v) (hd : zN4 d = some x) : zMP p C w x v := by
 unfold zN4 at hd
 split at hd
 ·cases hd
  refine ⟨rfl, fun i y u hy hu => ?_⟩
  cases i with
  | zero => simp [Cs.d0] at hy hu; subst hy; subst hu; exact h
  | succ i => simp [Cs.d0] at hy
 ·cases hd
  refine ⟨rfl, fun i y u hy hu => ?_⟩
  cases i with
  | zero => simp [Cs.d0] at hy hu; subst hy; subst hu; exact h
  | succ i => simp [Cs.d0] at hy
 ·cases hd
  exact h
 ·cases hd
theorem zJl {p : Rho} {C : Nat -> Nat -> Value -> Prop} {w : World} : ∀ {ds : List D} {xs : List (Bool × Cs)} {vs : List Value}, (ds.length = vs.length /\ ∀ (i : Nat) d v, ds[i]? = some d -> vs[i]? = some v -> zAy p C w d v) -> zP2 ds = some xs ->
  xs.length = vs.length /\ ∀ (i : Nat) x u, xs[i]? = some x -> vs[i]? = some u -> zMP p C w x u
 | [], _, vs, h, ht => by cases ht; exact ⟨h.1, fun i x u hx => nomatch hx⟩
 | d :: r, xs, [], h, ht => by have := h.1; simp at this
 | d :: r, xs, v :: vs, h, ht => by
  rw [zP2] at ht
  split at ht
  ·rename_i x xs' h1 h2
   cases ht
   have ih := zJl (ds := r) (vs := vs) ⟨by simpa using h.1, fun i d v hd hv => h.2 (i + 1) d v (by simpa using hd) (by simpa using hv)⟩ h2
   refine ⟨by simp [ih.1], fun i y u hy hu => ?_⟩
   cases i with
   | zero => simp at hy hu; subst hy; subst hu; exact zMZ (h.2 0 d v rfl rfl) h1
   | succ i => exact ih.2 i y u (by simpa using hy) (by simpa using hu)
  ·cases ht
theorem zOT {p : Rho} {C : Nat -> Nat -> Value -> Prop} {w : World} {ds : List D} {d : D} {vs : List Value} (h : ds.length = vs.length /\ ∀ (i : Nat) d v, ds[i]? = some d -> vs[i]? = some v -> zAy p C w d v) (hd : zSJ ds = some d) : zAy p C w d (if h : vs.toArray.size = 1 then vs.toArray[0] else .tuple vs.toArray) := by
 unfold zSJ at hd
 split at hd
 ·rename_i d'
  cases hd
  obtain ⟨v, rfl⟩ := List.length_eq_one_iff.1 h.1.symm
  exact h.2 0 d v rfl rfl
 ·rename_i hne
  split at hd
  ·rename_i xs hx
   cases hd
   have h1 : ¬ vs.length = 1 := fun h1 => by
    obtain ⟨d', rfl⟩ := List.length_eq_one_iff.1 (h.1.trans h1)
    exact hne d' rfl
   rw [dif_neg (by simpa using h1)]
   obtain ⟨k1, k2⟩ := zJl h hx
   exact ⟨vs, rfl, k1, k2⟩
  ·cases hd
section
variable {P : Program} {T : Nat -> Option TI} {X : Ctx}
end
def nv (m : Mem) (id : Nat) : Nat := match m id with | some b => b.ver + 1 | none => 0
def D0.ren (m : Mem) (base : Nat) : D0 -> Option D0
 | .e x => some (.e x)
 | .nil => some .nil
 | .own i v => some (.own (base + i) (v + nv m (base + i)))
 | _ => none
def zVm (m : Mem) (base : Nat) : List D0 -> Option (List D0)
 | [] => some []
 | x :: r => match x.ren m base, zVm m base r with
  | some y, some ys => some (y :: ys)
  | _, _ => none
def Cs.ren (m : Mem) (base : Nat) : Cs -> Option Cs
 | .es xs => some (.es xs)
 | .ds xs => match zVm m base xs with
  | some ys => some (.ds ys)
  | none => none
def zVl (m : Mem) (base : Nat) : List (Bool × Cs) -> Option (List (Bool × Cs))
 | [] => some []
 | (b, c) :: r => match c.ren m base, zVl m base r with
  | some d, some ds => some ((b, d) :: ds)
  | _, _ => none
def D.ren (m : Mem) (base : Nat) : D -> Option D
 | .one x => match x.ren m base with
  | some y => some (.one y)
  | none => none
 | .agg c => match c.ren m base with
  | some d => some (.agg d)
  | none => none
 | .tup xs => match zVl m base xs with
  | some ys => some (.tup ys)
  | none => none
 | _ => none
def zKY (ms : List (Nat × Blk)) (base id : Nat) : Option Blk := bif Nat.ble base id then zAl ms (id - base) else none
def zJd (m : Mem) (ms : List (Nat × Blk)) (base : Nat) : Mem := fun id => match zKY ms base id with
 | some b => some ⟨b.ver + nv m id, b.body, b.pub⟩
 | none => m id
theorem zQz {ms : List (Nat × Blk)} {base i : Nat} : zKY ms base (base + i) = zAl ms i := by
 unfold zKY
 rw [show Nat.ble base (base + i) = true from Nat.ble_eq_true_of_le (Nat.le_add_right ..), cond_true, Nat.add_sub_cancel_left]
theorem zJR {ms : List (Nat × Blk)} {base id : Nat} {b : Blk} (h : zKY ms base id = some b) : ∃ i, id = base + i /\ zAl ms i = some b := by
 unfold zKY at h
 cases hb : Nat.ble base id with
 | false => rw [hb] at h; cases h
 | true =>
  rw [hb] at h
  have := Nat.le_of_ble_eq_true hb
  exact ⟨id - base, by omega, h⟩
section
variable {P : Program} {X : Ctx}
theorem zQn {p p' : Rho} {C C' : Nat -> Nat -> Value -> Prop} {w : World} {m : Mem} {base : Nat} (hC : ∀ b o u, C b o u -> C' b o u) (h : ∀ i b, p.mem i = some b -> ∃ b', p'.mem (base + i) = some b' /\ b'.ver = b.ver + nv m (base + i) /\ b'.body = b.body /\ p'.μ (base + i) = p.μ i) {r r' : D} {v : Value} (hr : r.ren m base = some r') (hv : zAy p C w r v) : zAy p' C' w r' v := by
 have h0 : ∀ (x y : D0) (v : Value), x.ren m base = some y -> zCQ p C w x v -> zCQ p' C' w y v := by
  intro x y v hx hv
  unfold D0.ren at hx
  split at hx
  ·cases hx; exact RepE.mono hC hv
  ·cases hx; exact hv
  ·rename_i i ver
   cases hx
   obtain ⟨k0, blk, k1, k2, k3⟩ := hv
   obtain ⟨b', e1, e2, e3, e4⟩ := h i blk k1
   refine ⟨k0, b', e1, by omega, fun e => ?_⟩
   obtain ⟨z, n, z1, z2, z3⟩ := k3 (by omega)
   refine ⟨z, n, by rw [e3]; exact z1, z2, ?_⟩
   rcases z3 with z3 | ⟨g, cap, g1, g2⟩
   ·exact .inl z3
   ·exact .inr ⟨g, cap, by rw [e4]; exact g1, g2⟩
  ·cases hx
 have hl : ∀ (xs ys : List D0) (vs : List Value), zVm m base xs = some ys -> zBA p C w xs vs -> zBA p' C' w ys vs := by
  intro xs
  induction xs with
  | nil => intro ys vs hx hv; cases hx; exact ⟨hv.1, fun i x u hx => nomatch hx⟩
  | cons x xs ih =>
   intro ys vs hx hv
   rw [zVm] at hx
   split at hx
   ·rename_i y ys' h1 h2
    cases hx
    cases vs with
    | nil => have := hv.1; simp at this
    | cons v vs =>
     have := ih ys' vs h2 ⟨by simpa using hv.1, fun i x u hx hu => hv.2 (i + 1) x u (by simpa using hx) (by simpa using hu)⟩
     refine ⟨by simp [this.1], fun i x' u hx hu => ?_⟩
     cases i with
     | zero => simp at hx hu; subst hx; subst hu; exact h0 _ _ _ h1 (hv.2 0 _ _ rfl rfl)
     | succ i => exact this.2 i x' u (by simpa using hx) (by simpa using hu)
   ·cases hx
 have hc : ∀ (c d : Cs) (vs : List Value), c.ren m base = some d -> zBA p C w c.d0 vs -> zBA p' C' w d.d0 vs := by
  intro c d vs hx hv
  unfold Cs.ren at hx
  split at hx
  ·cases hx
   exact ⟨hv.1, fun i x u hx hu => by
    have h1 := hv.2 i x u hx hu
    simp only [Cs.d0, List.getElem?_map, Option.map_eq_some_iff] at hx
    obtain ⟨e, _, rfl⟩ := hx
    exact RepE.mono hC h1⟩
  ·split at hx
   ·rename_i h1
    cases hx
    exact hl _ _ _ h1 hv
   ·cases hx
 have ht : ∀ (xs ys : List (Bool × Cs)) (vs : List Value), zVl m base xs = some ys -> (xs.length = vs.length /\ ∀ (i : Nat) x u, xs[i]? = some x -> vs[i]? = some u -> zMP p C w x u) -> ys.length = vs.length /\ ∀ (i : Nat) x u, ys[i]? = some x -> vs[i]? = some u -> zMP p' C' w x u := by
  intro xs
  induction xs with
  | nil => intro ys vs hx hv; cases hx; exact ⟨hv.1, fun i x u hx => nomatch hx⟩
  | cons x xs ih =>
   obtain ⟨b, c⟩ := x
   intro ys vs hx hv
   rw [zVl] at hx
   split at hx
   ·rename_i y ys' h1 h2
    cases hx
    cases vs with
    | nil => have := hv.1; simp at this
    | cons v vs =>
     have := ih ys' vs h2 ⟨by simpa using hv.1, fun i x u hx hu => hv.2 (i + 1) x u (by simpa using hx) (by simpa using hu)⟩
     refine ⟨by simp [this.1], fun i x' u hx hu => ?_⟩
     cases i with
     | zero =>
      simp at hx hu
      subst hx
      subst hu
      have hT := hv.2 0 _ _ rfl rfl
      cases b with
      | true => obtain ⟨vs', rfl, h3⟩ := hT; exact ⟨vs', rfl, hc _ _ _ h1 h3⟩
      | false => exact hc _ _ _ h1 hT
     | succ i => exact this.2 i x' u (by simpa using hx) (by simpa using hu)
   ·cases hx
 unfold D.ren at hr
 split at hr
 ·split at hr
  ·rename_i h1
   cases hr
   exact h0 _ _ _ h1 hv
  ·cases hr
 ·split at hr
  ·rename_i h1
   cases hr
   obtain ⟨vs, rfl, h2⟩ := hv
   exact ⟨vs, rfl, hc _ _ _ h1 h2⟩
  ·cases hr
 ·split at hr
  ·rename_i h1
   cases hr
   obtain ⟨vs, rfl, h2⟩ := hv
   exact ⟨vs, rfl, ht _ _ _ h1 h2⟩
  ·cases hr
 ·cases hr
theorem zJU : ∀ {l : List (Nat × Blk)}, (∀ x ∈ l, x.2.isE = true) -> ∀ i b, zAl l i = some b -> b.isE = true
 | [], _, i, b, h => by cases h
 | (k, c) :: l, hl, i, b, h => by
  rw [zAl] at h
  cases hk : Nat.beq i k with
  | true => rw [hk] at h; cases h; exact hl (k, c) (List.mem_cons_self ..)
  | false => rw [hk] at h; exact zJU (fun x hx => hl x (List.mem_cons_of_mem _ hx)) i b h
theorem RM.adopt {M : Mem} {μ μf : Nat -> Option Nat} {w w' : World} {ms : List (Nat × Blk)} {base : Nat} {I : Nat -> Nat -> Prop} (h1 : RM X ⟨M, μ⟩ w) (h2 : RM (X0 w I) ⟨zAl ms, μf⟩ w') (hms : ms.all (fun x => x.2.isE) = true)
  (hI : ∀ b o, I b o -> (¬ X.own b -> X.I b o) /\ (X.own b -> ∀ id blk, M id = some blk -> μ id = some b -> o < blk.pub)) :
  ∃ μ', RM X ⟨zJd M ms base, μ'⟩ w' /\ Kept ⟨M, μ⟩ (CW X ⟨M, μ⟩ w) w ⟨zJd M ms base, μ'⟩ (CW X ⟨zJd M ms base, μ'⟩ w') w' ∧
   (∀ b o u, CW (X0 w I) ⟨zAl ms, μf⟩ w' b o u -> CW X ⟨zJd M ms base, μ'⟩ w' b o u) /\ ∀ i b, zAl ms i = some b -> ∃ b', zJd M ms base (base + i) = some b' /\ b'.ver = b.ver + nv M (base + i) /\ b'.body = b.body /\ μ' (base + i) = μf i := by
 have hb : Below w.heap.size w w' := h2.bel.toBelow (fun _ h => h)
 have hE : ∀ i b, zAl ms i = some b -> b.isE = true := fun i b => zJU (fun x hx => List.all_eq_true.1 hms x hx) i b
 have F1 : ∀ id blk g, M id = some blk -> μ id = some g -> g < w.heap.size := fun id blk g m1 m2 => by
  have := h1.blk id blk m1
  simp only [zAP, m2] at this
  obtain ⟨_, _, _, _, cur, e, lo, hi, g4, _⟩ := this
  exact (Array.getElem?_eq_some_iff.1 g4).1
 have F2 : ∀ i blk g, zAl ms i = some blk -> μf i = some g -> w.heap.size <= g := fun i blk g m1 m2 => by
  have := h2.blk i blk m1
  simp only [zAP, m2] at this
  exact this.2.1.elim id fun h => h.elim
 let μ' : Nat -> Option Nat := fun id => match zKY ms base id with
  | some _ => μf (id - base)
  | none => μ id
 have mO : ∀ id b, zKY ms base id = some b -> zJd M ms base id = some ⟨b.ver + nv M id, b.body, b.pub⟩ /\ μ' id = μf (id - base) := fun id b h => by
  refine ⟨?_, ?_⟩
  ·unfold zJd
   rw [h]
  ·show (match zKY ms base id with | some _ => μf (id - base) | none => μ id) = _
   rw [h]
 have mN : ∀ id, zKY ms base id = none -> zJd M ms base id = M id /\ μ' id = μ id := fun id h => by
  refine ⟨?_, ?_⟩
  ·unfold zJd
   rw [h]
  ·show (match zKY ms base id with | some _ => μf (id - base) | none => μ id) = _
   rw [h]
 have back : ∀ id blk g, zJd M ms base id = some blk -> μ' id = some g -> (∃ i b, id = base + i /\ zAl ms i = some b /\ μf i = some g /\ blk = ⟨b.ver + nv M id, b.body, b.pub⟩) \/ (zKY ms base id = none /\ M id = some blk /\ μ id = some g) := fun id blk g m1 m2 => by
  cases hn : zKY ms base id with
  | none =>
   obtain ⟨e1, e2⟩ := mN id hn
   rw [e1] at m1
   rw [e2] at m2
   exact .inr ⟨rfl, m1, m2⟩
  | some b =>
   obtain ⟨e1, e2⟩ := mO id b hn
   obtain ⟨i, rfl, hi⟩ := zJR hn
   rw [e1] at m1
   rw [e2, Nat.add_sub_cancel_left] at m2
   cases m1
   exact .inl ⟨i, b, rfl, hi, m2, rfl⟩
 let p : Rho := ⟨M, μ⟩
 let p' : Rho := ⟨zJd M ms base, μ'⟩
 have hC : ∀ b o u, CW X p w b o u -> CW X p' w' b o u := fun b o u ⟨k1, k2, k3⟩ => by
  have hlt := zEQ k1
  refine ⟨by rw [hb.cell (p := ⟨b, o, none⟩) hlt]; exact k1, k2, fun hle id blk m1 m2 => ?_⟩
  rcases back id blk b m1 m2 with ⟨i, b', _, q1, q2, _⟩ | ⟨_, q1, q2⟩
  ·exact absurd (F2 i b' b q1 q2) (Nat.not_le.2 hlt)
  ·exact k3 hle id blk q1 q2
 have hK : Kept p (CW X p w) w p' (CW X p' w') w' :=
  Kept.of hC (fun g n ⟨cur, e, fr, z1, z2⟩ => ⟨cur, e, fr, by rw [hb.block _ (Array.getElem?_eq_some_iff.1 z1).1]; exact z1, z2⟩) (fun id blk hm => by
   have hm : M id = some blk := hm
   cases hn : zKY ms base id with
   | none =>
    obtain ⟨e1, e2⟩ := mN id hn
    exact ⟨blk, e1.trans hm, Nat.le_refl _, fun _ => ⟨e2, rfl⟩⟩
   | some b =>
    obtain ⟨e1, e2⟩ := mO id b hn
    have hv : nv M id = blk.ver + 1 := by
     unfold nv
     rw [hm]
    exact ⟨_, e1, by show blk.ver <= b.ver + nv M id; omega, fun e => by
     have e : blk.ver = b.ver + nv M id := e
     omega⟩)
 have hX : ∀ b o u, CW (X0 w I) ⟨zAl ms, μf⟩ w' b o u -> CW X p' w' b o u := fun b o u ⟨k1, k2, k3⟩ => by
  have k2 : b < w.heap.size -> I b o := fun h => k2 fun q => q.elim (fun q => Nat.not_lt.2 q h) id
  have k3 : w.heap.size <= b -> ∀ id blk, zAl ms id = some blk -> μf id = some b -> o < blk.pub := fun h => k3 (.inl h)
  refine ⟨k1, fun hno => (hI b o (k2 (Nat.lt_of_not_le fun q => hno (.inl (Nat.le_trans h1.bel.size q))))).1 hno, fun hle id blk m1 m2 => ?_⟩
  rcases back id blk b m1 m2 with ⟨i, b', _, q1, q2, rfl⟩ | ⟨_, q1, q2⟩
  ·exact k3 (F2 i b' b q1 q2) i b' q1 q2
  ·exact (hI b o (k2 (F1 id blk b q1 q2))).2 hle id blk q1 q2
 refine ⟨μ', ⟨h1.bel.below hb, fun id blk hbk => ?_⟩, hK, hX, fun i b hi => ?_⟩
 ·have hbk : zJd M ms base id = some blk := hbk
  cases hn : zKY ms base id with
  | none =>
   obtain ⟨e1, e2⟩ := mN id hn
   rw [e1] at hbk
   have := h1.blk id blk hbk
   unfold zAP at this ⊢
   show match μ' id with | none => _ | some g => _
   rw [e2]
   split
   ·rename_i hg; simpa [hg] using this
   ·rename_i g hg
    simp only [hg] at this
    obtain ⟨g0, g1, g2, g3, cur, e, lo, hi, g4, g5, g6, g7⟩ := this
    refine ⟨g0, g1, fun id' blk' m1 m2 => ?_, g3, cur, e, lo, hi, by rw [hb.block _ (Array.getElem?_eq_some_iff.1 g4).1]; exact g4, g5, g6, fun i x hx => ?_⟩
    ·rcases back id' blk' g m1 m2 with ⟨i, b', _, q1, q2, _⟩ | ⟨_, q1, q2⟩
     ·exact absurd (F2 i b' g q1 q2) (Nat.not_le.2 (Array.getElem?_eq_some_iff.1 g4).1)
     ·exact g2 id' blk' q1 q2
    ·obtain ⟨u, u1, u2⟩ := g7 i x hx
     exact ⟨u, u1, u2.kept hK⟩
  | some b =>
   obtain ⟨e1, e2⟩ := mO id b hn
   obtain ⟨i, rfl, hi⟩ := zJR hn
   rw [Nat.add_sub_cancel_left] at e2
   rw [e1] at hbk
   cases hbk
   have := h2.blk i b hi
   unfold zAP at this ⊢
   show match μ' (base + i) with | none => _ | some g => _
   rw [e2]
   split
   ·rename_i hg
    simp only [hg] at this
    exact this
   ·rename_i g hg
    simp only [hg] at this
    obtain ⟨g0, g1, g2, g3, cur, e, lo, hi', g4, g5, g6, g7⟩ := this
    have g1 : w.heap.size <= g := g1.elim id fun h => h.elim
    refine ⟨g0, .inl (Nat.le_trans h1.bel.size g1), fun id' blk' m1 m2 => ?_, g3, cur, e, lo, hi', g4, g5, g6, fun j x hx => ?_⟩
    ·rcases back id' blk' g m1 m2 with ⟨k, b', rfl, q1, q2, _⟩ | ⟨_, q1, q2⟩
     ·rw [g2 k b' q1 q2]
     ·exact absurd g1 (Nat.not_le.2 (F1 id' blk' g q1 q2))
    ·obtain ⟨u, u1, u2⟩ := g7 j x hx
     obtain ⟨e', rfl⟩ := Blk.isE_cells (hE i b hi) x (List.mem_of_getElem? hx)
     exact ⟨u, u1, RepE.mono hX u2⟩
 ·obtain ⟨e1, e2⟩ := mO (base + i) b (zQz.trans hi)
  rw [Nat.add_sub_cancel_left] at e2
  exact ⟨_, e1, rfl, rfl, e2⟩
theorem zJJ {gs : List (Nat × List E)} {ops : Array Oper} {s : St} {o : Oper} {fo : Operand} {f t base : Nat} {args : Array Operand} {ts : Array TypeId} (hop : o.op = .call ⟨.value fo, args, ts⟩) (hgd : zBT ops s o = .free) (hfo : (s.ev fo).strip = .one (.clo f [])) {az : List D} {us : zBa} {r r' : D} {ms : List (Nat × Blk)}
  (has : zBi s.mem (args.toList.map fun x => (s.ev x).strip) = some (az, us)) (hn : ∀ p ∈ zAR s (fo :: args.toList), p) (hgl : ∀ x ∈ gs, s.tm (1000000 + x.1) = .one (.eptr x.2)) (hfn : FnO P f gs az r ms) (hms : ms.all (fun x => x.2.isE) = true) (hren : r.ren (zBd s.mem us) base = some r') (hdst : o.dst = some t) (hd : Nat.blt t X.nt = true) : OpT P X ops o s ⟨upd s.tm t r', zJd (zBd s.mem us) ms base⟩ := by
 intro Q a w ⟨μ, hM, hsz, hdf, hr⟩
 rw [if_pos (zCa hgd a)]
 obtain ⟨⟨fn, c, k1, k2, k34⟩, hfn⟩ := hfn
 obtain ⟨k3, k4⟩ := Bool.or_eq_false_iff.1 k34
 obtain ⟨r1, r2, r3, r4⟩ := RM.pubs us s.mem hM (zCM has)
 have hrep := zCc (vs := (args.map a.eval).toList) r1 ⟨by simp, fun i d v hd hv => by
  simp only [List.getElem?_map, Array.toList_map, Option.map_eq_some_iff] at hd hv
  obtain ⟨x, hx, rfl⟩ := hd
  obtain ⟨y, hy, rfl⟩ := hv
  rw [hx] at hy
  cases hy
  exact (zAA (zBn hr x) (zAC hn x (List.mem_cons_of_mem _ (List.mem_of_getElem? hx)))).kept r2⟩ has r3
 have hf := zAA (zBn hr fo) (zAC hn fo (List.mem_cons_self ..))
 rw [hfo] at hf
 obtain ⟨vs0, hfv, hl0, _⟩ := hf
 rw [zCG k4] at hfv
 have hvs0 : vs0 = [] := List.eq_nil_of_length_eq_zero (by simpa using hl0.symm)
 subst hvs0
 have hcall : (execOp a.eval o).run P w = .ok (.enter f (args.map a.eval)) w := by
  have hb : fn.body.isNone = false := by rw [k2]; rfl
  have hne : ¬ (fn.name = "runtime.NumGoroutine") := by simpa using k3
  simp [execOp, hop, resolve, hfv, Deferred.ofValue, invoke, callFunc, k1, hne, k2]
 unfold Oper.wp
 rw [hcall, Oper.upon_enter]
 let I : Nat -> Nat -> Prop := fun b o => (¬ X.own b -> X.I b o) /\ (X.own b -> ∀ id blk, zBd s.mem us id = some blk -> μ id = some b -> o < blk.pub)
 refine (hfn w (args.map a.eval) I (fun x hx => by
  have h1 := hr (1000000 + x.1)
  rw [hgl x hx, zBH] at h1
  exact zCx (fun b o u h => ⟨h.1, h.2⟩) (h1.kept r2)) ⟨hrep.1, fun i d v hd hv => (hrep.2 i d v hd hv).kept (zCC fun b o u h => ⟨h.1, h.2⟩)⟩).mono ?_
 rintro e w' ⟨v, rfl, μf, hMf, hv⟩
 obtain ⟨μ', q1, q2, q3, q4⟩ := RM.adopt (base := base) r1 hMf hms (fun b o h => h)
 have hv' := zQn (p := ⟨zAl ms, μf⟩) (p' := ⟨zJd (zBd s.mem us) ms base, μ'⟩) q3 q4 hren hv
 refine ⟨μ', q1, by rw [hdst]; simp [Act.put, hsz], by rw [hdst]; exact hdf, ?_⟩
 have := zBF (dst := some t) hr (r2.trans q2) hv' hsz hd []
 rw [hdst]
 exact this
theorem callO {gs : List (Nat × List E)} {nt : Nat} {ops : Array Oper} {o : Oper} {rest : List Oper} {tm : Nat -> D} {m : Mem} {fo : Operand} {f t base : Nat} {args : Array Operand} {ts : Array TypeId} {az : List D} {us : zBa} {r r' : D} {ms : List (Nat × Blk)} {s'' : St} (hop : o.op = .call ⟨.value fo, args, ts⟩) (hgd : zBT ops ⟨tm, m⟩ o = .free) (hfo : ((⟨tm, m⟩ : St).ev fo).strip = .one (.clo f []))
  (has : zBi m (args.toList.map fun x => ((⟨tm, m⟩ : St).ev x).strip) = some (az, us)) (hn : zAR ⟨tm, m⟩ (fo :: args.toList) = []) (hd : o.dst = some t) (hlt : Nat.blt t nt = true) (hnt : X.nt = nt) (hgl : gs.map (fun x => tm (1000000 + x.1)) = gs.map fun x => .one (.eptr x.2)) (hms : ms.all (fun x => x.2.isE) = true) (hfn : FnO P f gs az r ms) (hren : r.ren (zDH m us) base = some r') (k : Lex P X ops rest ⟨upd tm t r', zJd (zDH m us) ms base⟩ s'') : Lex P X ops (o :: rest) ⟨tm, m⟩ s'' := by
 rw [zB9] at hren k
 exact .cons (zJJ (us := us) hop hgd hfo has (fun p hp => by rw [hn] at hp; cases hp) (zB4 hgl) hfn hms hren hd (by rw [hnt]; exact hlt)) k
end
section
variable {P : Program} {X : Ctx}
theorem zBy {σ : Type} (H : σ -> St) (J : σ -> Prop) {a b : Code} {s : St} {Q : Exit -> St -> Prop} (h : Tr P X a s (fun | .normal, t => ∃ x, J x /\ Le X t (H x) | e, t => Q e t)) (k : ∀ x, J x -> Tr P X b (H x) Q) : Tr P X a s (andThen P X b Q) :=
 zEJ h fun e t he => by
  cases e with
  | normal =>
   obtain ⟨x, hx, hle⟩ := he
   exact zAq hle (k x hx)
  | _ => exact he
end
theorem zQm {C : Nat -> Nat -> Value -> Prop} {xs : List (List E)} {v : Value} (h : RepE C (.sl xs) v) : xs.length <= maxLen := by
 obtain ⟨A, n, cap, z, b, o, U, _, hn, hc, hm, _⟩ := zDb h
 omega
theorem zJC {C : Nat -> Nat -> Value -> Prop} {w : World} {args : List D} {vs : List Value} (ha : zHy C w args vs) {i : Nat} {xs : List (List E)} (h : args[i]? = some (.one (.e (.sl xs)))) : xs.length <= maxLen := by
 have hi : i < vs.length := by
  rw [<-ha.1]
  exact (List.getElem?_eq_some_iff.1 h).1
 exact zQm (ha.2 i _ _ h (List.getElem?_eq_getElem hi))
theorem FnD.len {P : Program} {f : Nat} {args : List D} {r : D} (hok : zRc P f) (i : Nat) {xs : List (List E)} (h : args[i]? = some (.one (.e (.sl xs)))) (k : xs.length <= maxLen -> FnD P f args r) : FnD P f args r :=
 ⟨hok, fun w vs I ha => (k (zJC ha h)).2 w vs I ha⟩
theorem FnG.len {P : Program} {f : Nat} {gs : List (Nat × List E)} {args : List D} {r : D} (hok : zRc P f) (i : Nat) {xs : List (List E)} (h : args[i]? = some (.one (.e (.sl xs)))) (k : xs.length <= maxLen -> FnG P f gs args r) : FnG P f gs args r :=
 ⟨hok, fun w vs I hg ha => (k (zJC ha h)).2 w vs I hg ha⟩
inductive Eff1 (P : Program) (T : Nat -> Option TI) (nt : Nat) (ops : Array Oper) (F : List Nat) (o : Oper) (s : St) : D -> zBa -> Prop
 | op {φ : Prop} {d : D} {us : zBa} (h : zGA T nt ops s o = some ⟨φ, d, us⟩) (hφ : φ) : Eff1 P T nt ops F o s d us
 | call {fo : Operand} {f : Nat} {args : Array Operand} {ts : Array TypeId} {az : List D} {us : zBa} {r : D} (hop : o.op = .call ⟨.value fo, args, ts⟩) (hgd : zBT ops s o = .free) (hfo : (s.ev fo).strip = .one (.clo f []))
   (has : zBi s.mem (args.toList.map fun x => (s.ev x).strip) = some (az, us)) (hn : ∀ p ∈ zAR s (fo :: args.toList), p) (hfn : FnD P f az r) (hd : zB0 nt o.dst = true) : Eff1 P T nt ops F o s r us
 | ext {fo : Operand} {f : Nat} {args : Array Operand} {ts : Array TypeId} {az : List D} {us : zBa} {r : D} (hop : o.op = .call ⟨.value fo, args, ts⟩) (hgd : zBT ops s o = .free) (hfo : (s.ev fo).strip = .one (.clo f []))
   (has : zBi s.mem (args.toList.map fun x => (s.ev x).strip) = some (az, us)) (hn : ∀ p ∈ zAR s (fo :: args.toList), p) (hfn : FnE P f az r) (hd : zB0 nt o.dst = true) : Eff1 P T nt ops F o s r us
 | callC {fo : Operand} {f : Nat} {caps : List (Nat × Nat × Nat)} {args : Array Operand} {ts : Array TypeId} {az : List D} {us : zBa} {r : D} (hop : o.op = .call ⟨.value fo, args, ts⟩) (hgd : zBT ops s o = .free) (hfo : (s.ev fo).strip = .one (.clo f caps))
   (has : zBi s.mem ((args.toList.map fun x => (s.ev x).strip) ++ zET caps) = some (az, us)) (hn : ∀ p ∈ zAR s (fo :: args.toList), p) (hfn : FnD P f az r) (hd : zB0 nt o.dst = true) : Eff1 P T nt ops F o s r us
 | callG {fo : Operand} {f : Nat} {args : Array Operand} {ts : Array TypeId} {q : Prop} {az : List D} {r : D} (hop : o.op = .call ⟨.value fo, args, ts⟩) (hgd : zBT ops s o = .iff q) (hfo : (s.ev fo).strip = .one (.clo f []))
   (has : zBi s.mem (args.toList.map fun x => (s.ev x).strip) = some (az, [])) (hn : q -> ∀ p ∈ zAR s (fo :: args.toList), p) (hfn : q -> FnD P f az r) (hd : zB0 nt o.dst = true) : Eff1 P T nt ops F o s (.gd q r) []
 | callV {gs : List (Nat × List E)} {fo : Operand} {f : Nat} {args : Array Operand} {ts : Array TypeId} {az : List D} {us : zBa} {r : D} (hop : o.op = .call ⟨.value fo, args, ts⟩) (hgd : zBT ops s o = .free) (hfo : (s.ev fo).strip = .one (.clo f []))
   (has : zBi s.mem (args.toList.map fun x => (s.ev x).strip) = some (az, us)) (hn : ∀ p ∈ zAR s (fo :: args.toList), p) (hgl : ∀ x ∈ gs, s.tm (1000000 + x.1) = .one (.eptr x.2)) (hfn : FnG P f gs az r) (hd : zB0 nt o.dst = true) : Eff1 P T nt ops F o s r us
 | callVG {gs : List (Nat × List E)} {fo : Operand} {f : Nat} {args : Array Operand} {ts : Array TypeId} {q : Prop} {az : List D} {r : D} (hop : o.op = .call ⟨.value fo, args, ts⟩) (hgd : zBT ops s o = .iff q) (hfo : (s.ev fo).strip = .one (.clo f []))
   (has : zBi s.mem (args.toList.map fun x => (s.ev x).strip) = some (az, [])) (hn : q -> ∀ p ∈ zAR s (fo :: args.toList), p) (hgl : ∀ x ∈ gs, s.tm (1000000 + x.1) = .one (.eptr x.2)) (hfn : q -> FnG P f gs az r) (hd : zB0 nt o.dst = true) : Eff1 P T nt ops F o s (.gd q r) []
 | callO {gs : List (Nat × List E)} {fo : Operand} {f t i v : Nat} {b : Blk} {args : Array Operand} {ts : Array TypeId} {az : List D} (hop : o.op = .call ⟨.value fo, args, ts⟩) (hgd : zBT ops s o = .free) (hfo : (s.ev fo).strip = .one (.clo f []))
   (has : zBi s.mem (args.toList.map fun x => (s.ev x).strip) = some (az, [])) (hn : ∀ p ∈ zAR s (fo :: args.toList), p) (hgl : ∀ x ∈ gs, s.tm (1000000 + x.1) = .one (.eptr x.2)) (hfn : FnO P f gs az (.one (.own i v)) [(i, b)]) (hb : b.isE = true) (hit : Nat.ble i t = true) (hdst : o.dst = some t) (hd : Nat.blt t nt = true) : Eff1 P T nt ops F o s (.one (.own t (v + nv s.mem t))) [(t, ⟨b.ver + nv s.mem t, b.body, b.pub⟩)]
 | gen {d : D} {us : zBa} (h : ∀ s', Same ops o s s' -> (∀ k, inB F k = true -> s.mem k = s'.mem k) -> ∀ X : Ctx, X.nt = nt -> OpT P X ops o s' (s'.app o.dst d us)) : Eff1 P T nt ops F o s d us
theorem zQB (m : Mem) {i t : Nat} (hit : Nat.ble i t = true) (b : Blk) : zJd m [(i, b)] (t - i) = upd m t (some ⟨b.ver + nv m t, b.body, b.pub⟩) := by
 have hit := Nat.le_of_ble_eq_true hit
 funext id
 unfold zJd zKY zAl zAl
 by_cases h : id = t
 ·subst h
  rw [show Nat.ble (id - i) id = true from Nat.ble_eq_true_of_le (Nat.sub_le ..), show id - (id - i) = i by omega, show Nat.beq i i = true from Nat.beq_refl i]
  simp [upd]
 ·have : (bif Nat.ble (t - i) id then bif Nat.beq (id - (t - i)) i then some b else none else none) = none := by
   cases h1 : Nat.ble (t - i) id with
   | false => rfl
   | true =>
    have h1 := Nat.le_of_ble_eq_true h1
    cases h2 : Nat.beq (id - (t - i)) i with
    | false => rfl
    | true => have h2 := Nat.eq_of_beq_eq_true h2; exact absurd (by omega) h
  rw [this]
  have hb : Nat.beq id t = false := by cases hb : Nat.beq id t with | true => exact absurd (Nat.eq_of_beq_eq_true hb) h | false => rfl
  show m id = bif Nat.beq id t then _ else m id
  rw [hb]
  rfl
section
variable {P : Program} {T : Nat -> Option TI} {X : Ctx} {nt : Nat} {ops : Array Oper}
theorem Eff1.sound (hT : TOk P T) (hnt : X.nt = nt) {F : List Nat} {o : Oper} {s : St} {d : D} {us : zBa} (h : Eff1 P T nt ops F o s d us) : OpT P X ops o s (s.app o.dst d us) := by
 cases h with
 | gen h => exact h s ⟨fun _ _ => rfl, fun _ _ _ _ => rfl, fun _ _ _ _ => rfl, rfl, fun _ => rfl⟩ (fun _ _ => rfl) X hnt
 | op h hφ => subst hnt; exact zEb hT h hφ
 | call hop hgd hfo has hn hfn hd => subst hnt; exact zIp hop hgd hfo has hn hfn hd
 | ext hop hgd hfo has hn hfn hd => subst hnt; exact zOu hop hgd hfo has hn hfn hd
 | callC hop hgd hfo has hn hfn hd => subst hnt; exact zGG hop hgd hfo has hn hfn hd
 | callG hop hgd hfo has hn hfn hd => subst hnt; exact zJL hop hgd hfo has hn hfn hd
 | callV hop hgd hfo has hn hgl hfn hd => subst hnt; exact zGF hop hgd hfo has hn hgl hfn hd
 | callVG hop hgd hfo has hn hgl hfn hd => subst hnt; exact zHL hop hgd hfo has hn hgl hfn hd
 | callO hop hgd hfo has hn hgl hfn hb hit hdst hd =>
  subst hnt
  rename_i gs fo f t i v b args ts az
  have h := zJJ (P := P) (X := X) (ops := ops) (s := s) (o := o) (us := []) (base := t - i) (r' := .one (.own t (v + nv s.mem t))) hop hgd hfo has hn hgl hfn (by simp [hb]) (by
   have := Nat.le_of_ble_eq_true hit
   show some (D.one (.own (t - i + i) (v + nv s.mem (t - i + i)))) = _
   rw [Nat.sub_add_cancel this]) hdst hd
  rw [show s.app o.dst (.one (.own t (v + nv s.mem t))) [(t, ⟨b.ver + nv s.mem t, b.body, b.pub⟩)] = ⟨upd s.tm t (.one (.own t (v + nv s.mem t))), zJd (zBd s.mem []) [(i, b)] (t - i)⟩ by
   rw [zQB _ hit]; unfold St.app; rw [hdst]; rfl]
  exact h
theorem zG6 {m m' : Mem} {d : D} (h : Alk m m' d) : zF7 m d = zF7 m' d := by
 unfold zF7
 split
 ·rfl
 ·rename_i i v o; rw [h i (by simp [zCO, zDy])]
 ·rename_i x _; rw [zGT (fun i hi => h i (by simpa [zCO] using hi))]
 ·rename_i c; rw [zEn (fun i hi => h i (by simpa [zCO] using hi))]
 ·rfl
theorem zEO {m m' : Mem} : ∀ {l : List D}, (∀ d ∈ l, Alk m m' d) -> zBi m l = zBi m' l
 | [], _ => rfl
 | d :: r, h => by rw [zBi, zBi, zG6 (h d (by simp)), zEO (fun d hd => h d (by simp [hd]))]
theorem zGq {m m' : Mem} : ∀ {caps : List (Nat × Nat × Nat)}, (∀ c ∈ caps, m c.1 = m' c.1) -> ∀ d ∈ zET caps, Alk m m' d
 | [], _, d, hd => by cases hd
 | c :: caps, hA, d, hd => by
  rcases List.mem_cons.1 hd with rfl | hd
  ·intro i hi
   simp [zCO, zDy] at hi
   subst hi
   exact hA c (List.mem_cons_self ..)
  ·exact zGq (fun c hc => hA c (List.mem_cons_of_mem _ hc)) d hd
theorem zBL {o : Oper} {s s' : St} (h : Same ops o s s') : zBT ops s o = zBT ops s' o := by
 unfold zBT
 split
 ·rfl
 ·rename_i g b hg
  split
  ·rename_i og hog
   split
   ·rename_i t ht
    rw [h.tm t (by unfold Oper.looksAt; rw [hg]; simp [hog, ht])]
   ·rfl
  ·rfl
theorem zA0 {s s' : St} : ∀ {l : List Operand}, (∀ x ∈ l, s.ev x = s'.ev x) -> zAR s l = zAR s' l
 | [], _ => rfl
 | x :: r, h => by rw [zAR, zAR, h x (by simp), zA0 (fun x hx => h x (by simp [hx]))]
theorem zKJ {o : Oper} {s s' : St} (h : Same ops o s s') : zGA T nt ops s o = zGA T nt ops s' o := by
 have hraw : zQo T s (zFk o.dst) o.op = zQo T s' (zFk o.dst) o.op := by
  by_cases hp : ∃ c x y, o.op = .pick c x y
  ·obtain ⟨c, x, y, ho⟩ := hp
   rw [ho]
   show zKT s c x y = zKT s' c x y
   unfold zKT
   rw [h.ev c (by rw [ho]; simp [Op.operands]), h.ev x (by rw [ho]; simp [Op.operands]), h.ev y (by rw [ho]; simp [Op.operands])]
  ·unfold zQo
   split
   ·rename_i ho; exact absurd ⟨_, _, _, ho⟩ hp
   ·rw [zPc (m' := s'.mem) (fun x hx => zC1 (h.mem x hx)) (fun x hx => zNN (h.ver x hx)) h.dst, zLm (ev' := fun x => (s'.ev x).strip) (fun x hx => by simp only [h.ev x hx]), zA0 (fun x hx => h.ev x (by simpa using hx))]
 have hI : ∀ id, id = zFk o.dst -> zKI T ops s o id = zKI T ops s' o id := fun id e => by
  subst e
  unfold zKI
  rw [zBL h, hraw]
 unfold zGA
 split
 ·rename_i t ht; rw [hI t (by rw [ht]; rfl)]
 ·rename_i ht; rw [hI 0 (by rw [ht]; rfl)]
theorem zCP {o : Oper} {s s' : St} (h : Same ops o s s') {c : Call} (hc : o.op = .call c) {l : List Operand} (hl : ∀ x ∈ l, x ∈ o.op.operands) : zBi s.mem (l.map fun x => (s.ev x).strip) = zBi s'.mem (l.map fun x => (s'.ev x).strip) := by
 rw [show (l.map fun x => (s'.ev x).strip) = l.map fun x => (s.ev x).strip from List.map_congr_left fun x hx => by rw [h.ev x (hl x hx)]]
 refine zEO fun d hd => ?_
 obtain ⟨x, hx, rfl⟩ := List.mem_map.1 hd
 exact zC1 (h.mem x (zEd hc (hl x hx)))
theorem Same.trans {o : Oper} {s s' s'' : St} (h : Same ops o s s') (k : Same ops o s' s'') : Same ops o s s'' :=
 ⟨fun t ht => (h.tm t ht).trans (k.tm t ht), fun x hx i hi => (h.mem x hx i hi).trans (k.mem x hx i (by rw [<-h.ev x (zBR hx)]; exact hi)), fun x hx i hi => (h.ver x hx i hi).trans (k.ver x hx i (by rw [<-h.ev x (zFt hx)]; exact hi)), h.dst.trans k.dst, fun g => (h.glob g).trans (k.glob g)⟩
theorem Eff1.congr {F : List Nat} {o : Oper} {s s' : St} {d : D} {us : zBa} (h : Same ops o s s') (hF : ∀ k, inB F k = true -> s.mem k = s'.mem k) (k : Eff1 P T nt ops F o s d us) : Eff1 P T nt ops F o s' d us := by
 cases k with
 | gen hg => exact .gen fun s'' h2 h3 X hX => hg s'' (h.trans h2) (fun k hk => (hF k hk).trans (h3 k hk)) X hX
 | op hs hφ => exact .op (by rw [<-zKJ h]; exact hs) hφ
 | call hop hgd hfo has hn hfn hd =>
  have hargs : ∀ x ∈ (_ : Array Operand).toList, x ∈ o.op.operands := fun x hx => by
   rw [hop]; simp only [Op.operands, Call.operands]; simp at hx ⊢; exact .inr hx
  refine .call hop (by rw [<-zBL h]; exact hgd) (by rw [<-h.ev _ (by rw [hop]; simp [Op.operands, Call.operands])]; exact hfo) (az := _) ?_ ?_ hfn hd
  ·rw [<-has]
   exact (zCP h hop hargs).symm
  ·rw [<-zA0 (s := s) fun x hx => by
    rcases List.mem_cons.1 hx with rfl | hx
    ·exact h.ev _ (by rw [hop]; simp [Op.operands, Call.operands])
    ·exact h.ev x (hargs x hx)]
   exact hn
 | ext hop hgd hfo has hn hfn hd =>
  have hargs : ∀ x ∈ (_ : Array Operand).toList, x ∈ o.op.operands := fun x hx => by
   rw [hop]; simp only [Op.operands, Call.operands]; simp at hx ⊢; exact .inr hx
  refine .ext hop (by rw [<-zBL h]; exact hgd) (by rw [<-h.ev _ (by rw [hop]; simp [Op.operands, Call.operands])]; exact hfo) (az := _) ?_ ?_ hfn hd
  ·rw [<-has]
   exact (zCP h hop hargs).symm
  ·rw [<-zA0 (s := s) fun x hx => by
    rcases List.mem_cons.1 hx with rfl | hx
    ·exact h.ev _ (by rw [hop]; simp [Op.operands, Call.operands])
    ·exact h.ev x (hargs x hx)]
   exact hn
 | callC hop hgd hfo has hn hfn hd =>
  rename_i fo f caps args ts az
  have hargs : ∀ x ∈ args.toList, x ∈ o.op.operands := fun x hx => by
   rw [hop]; simp only [Op.operands, Call.operands]; simp at hx ⊢; exact .inr hx
  have hfm : fo ∈ o.op.operands := by rw [hop]; simp [Op.operands, Call.operands]
  refine .callC hop (by rw [<-zBL h]; exact hgd) (by rw [<-h.ev _ hfm]; exact hfo) (az := _) ?_ ?_ hfn hd
  ·rw [<-has, show (args.toList.map fun x => (s'.ev x).strip) = args.toList.map fun x => (s.ev x).strip from List.map_congr_left fun x hx => by rw [h.ev x (hargs x hx)]]
   refine (zEO fun d hd => ?_).symm
   rcases List.mem_append.1 hd with hd | hd
   ·obtain ⟨x, hx, rfl⟩ := List.mem_map.1 hd
    exact zC1 (h.mem x (zEd hop (hargs x hx)))
   ·have hA : Alk s.mem s'.mem (.one (.clo f caps)) := hfo ▸ zC1 (h.mem fo (zEd hop hfm))
    have hA : ∀ c ∈ caps, s.mem c.1 = s'.mem c.1 := fun c hc => hA c.1 (by simp only [zCO, zDy]; exact List.mem_map_of_mem hc)
    exact zGq hA d hd
  ·rw [<-zA0 (s := s) fun x hx => by
    rcases List.mem_cons.1 hx with rfl | hx
    ·exact h.ev _ hfm
    ·exact h.ev x (hargs x hx)]
   exact hn
 | callG hop hgd hfo has hn hfn hd =>
  have hargs : ∀ x ∈ (_ : Array Operand).toList, x ∈ o.op.operands := fun x hx => by
   rw [hop]; simp only [Op.operands, Call.operands]; simp at hx ⊢; exact .inr hx
  refine .callG hop (by rw [<-zBL h]; exact hgd) (by rw [<-h.ev _ (by rw [hop]; simp [Op.operands, Call.operands])]; exact hfo) (az := _) ?_ ?_ hfn hd
  ·rw [<-has]
   exact (zCP h hop hargs).symm
  ·rw [<-zA0 (s := s) fun x hx => by
    rcases List.mem_cons.1 hx with rfl | hx
    ·exact h.ev _ (by rw [hop]; simp [Op.operands, Call.operands])
    ·exact h.ev x (hargs x hx)]
   exact hn
 | callV hop hgd hfo has hn hgl hfn hd =>
  have hargs : ∀ x ∈ (_ : Array Operand).toList, x ∈ o.op.operands := fun x hx => by
   rw [hop]; simp only [Op.operands, Call.operands]; simp at hx ⊢; exact .inr hx
  refine .callV hop (by rw [<-zBL h]; exact hgd) (by rw [<-h.ev _ (by rw [hop]; simp [Op.operands, Call.operands])]; exact hfo) (az := _) ?_ ?_ (fun x hx => (h.glob x.1) ▸ hgl x hx) hfn hd
  ·rw [<-has]
   exact (zCP h hop hargs).symm
  ·rw [<-zA0 (s := s) fun x hx => by
    rcases List.mem_cons.1 hx with rfl | hx
    ·exact h.ev _ (by rw [hop]; simp [Op.operands, Call.operands])
    ·exact h.ev x (hargs x hx)]
   exact hn
 | callVG hop hgd hfo has hn hgl hfn hd =>
  have hargs : ∀ x ∈ (_ : Array Operand).toList, x ∈ o.op.operands := fun x hx => by
   rw [hop]; simp only [Op.operands, Call.operands]; simp at hx ⊢; exact .inr hx
  refine .callVG hop (by rw [<-zBL h]; exact hgd) (by rw [<-h.ev _ (by rw [hop]; simp [Op.operands, Call.operands])]; exact hfo) (az := _) ?_ ?_ (fun x hx => (h.glob x.1) ▸ hgl x hx) hfn hd
  ·rw [<-has]
   exact (zCP h hop hargs).symm
  ·rw [<-zA0 (s := s) fun x hx => by
    rcases List.mem_cons.1 hx with rfl | hx
    ·exact h.ev _ (by rw [hop]; simp [Op.operands, Call.operands])
    ·exact h.ev x (hargs x hx)]
   exact hn
 | callO hop hgd hfo has hn hgl hfn hb hit hdst hd =>
  rename_i gs fo f t i v b args ts az
  have hargs : ∀ x ∈ args.toList, x ∈ o.op.operands := fun x hx => by
   rw [hop]; simp only [Op.operands, Call.operands]; simp at hx ⊢; exact .inr hx
  have hnv : nv s.mem t = nv s'.mem t := by
   have h1 := h.dst
   rw [hdst] at h1
   unfold nv
   rw [show s.mem t = s'.mem t from h1]
  rw [hnv]
  refine .callO hop (by rw [<-zBL h]; exact hgd) (by rw [<-h.ev _ (by rw [hop]; simp [Op.operands, Call.operands])]; exact hfo) (az := az) ?_ ?_ (fun x hx => (h.glob x.1) ▸ hgl x hx) hfn hb hit hdst hd
  ·rw [<-has]
   exact (zCP h hop hargs).symm
  ·rw [<-zA0 (s := s) fun x hx => by
    rcases List.mem_cons.1 hx with rfl | hx
    ·exact h.ev _ (by rw [hop]; simp [Op.operands, Call.operands])
    ·exact h.ev x (hargs x hx)]
   exact hn
end
abbrev FP := List Nat × List Nat
section
variable {P : Program} {T : Nat -> Option TI} {X : Ctx} {nt : Nat} {ops : Array Oper}
structure Sd (P : Program) (T : Nat -> Option TI) (nt : Nat) (ops : Array Oper) (fp : FP) (o : Oper) (s : St) (d : D) (us : zBa) : Prop where
 eff : Eff1 P T nt ops fp.1 o s d us
 rd : ∀ x ∈ rdO o.op, ∀ k ∈ zCO (s.ev x), inB fp.1 k = true
 rdD : inB fp.1 (zFk o.dst) = true
 wr : ∀ u ∈ us, inB fp.2 u.1 = true
 rv : ∀ x ∈ rdV o.op, ∀ k ∈ zCO (s.ev x), inB fp.1 (k + 2000000) = true
 wv : ∀ u ∈ us, inB fp.2 (u.1 + 2000000) = true \/ zHn s.mem u.1 = some u.2.ver
def zHg (l r : List Nat) : Bool :=
 match l with
 | [] => true
 | k :: l => !inB r k && zHg l r
theorem zCy {l r : List Nat} (h : zHg l r = true) : ∀ k, inB l k = true -> inB r k = false := by
 induction l with
 | nil => intro k hk; cases hk
 | cons a l ih =>
  simp only [zHg, Bool.and_eq_true, Bool.not_eq_true'] at h
  intro k hk
  simp only [inB, Bool.or_eq_true] at hk
  rcases hk with hk | hk
  ·obtain rfl := Nat.eq_of_beq_eq_true hk; exact h.1
  ·exact ih h.2 k hk
def zJs : Option Tmp -> Bool
 | none => true
 | some k => Nat.blt k 1000000
def zED (ops : Array Oper) (fi fj : FP) (oi oj : Oper) : Bool :=
 oi.apart ops oj && zHg fi.2 fj.1 && zHg fi.2 fj.2 && zHg fj.2 fi.1 && zJs oi.dst && zJs oj.dst
theorem zAM : ∀ (us : zBa) (m : Mem) (k : Nat), (∀ u ∈ us, u.1 ≠ k) -> zBd m us k = m k
 | [], m, k, _ => rfl
 | u :: us, m, k, h => by rw [zC0, zAM us _ k (fun v hv => h v (by simp [hv])), zAB _ _ (Ne.symm (h u (by simp)))]
theorem zI6 : ∀ (us : zBa) (m m' : Mem) (k : Nat), (∃ u ∈ us, u.1 = k) -> zBd m us k = zBd m' us k
 | [], m, m', k, h => by obtain ⟨u, hu, _⟩ := h; cases hu
 | u :: us, m, m', k, h => by
  rw [zC0, zC0]
  by_cases hk : ∃ v ∈ us, v.1 = k
  ·exact zI6 us _ _ k hk
  ·have hn : ∀ v ∈ us, v.1 ≠ k := fun v hv e => hk ⟨v, hv, e⟩
   rw [zAM us _ k hn, zAM us _ k hn]
   obtain ⟨v, hv, e⟩ := h
   rcases List.mem_cons.1 hv with rfl | hv
   ·rw [<-e, zAn, zAn]
   ·exact absurd e (hn v hv)
theorem zPE (m : Mem) (us vs : zBa) (h : ∀ u ∈ us, ∀ v ∈ vs, u.1 ≠ v.1) : zBd (zBd m us) vs = zBd (zBd m vs) us := by
 funext k
 by_cases h1 : ∃ u ∈ us, u.1 = k
 ·obtain ⟨u, hu, rfl⟩ := h1
  have hv : ∀ v ∈ vs, v.1 ≠ u.1 := fun v hv e => h u hu v hv e.symm
  rw [zAM vs _ _ hv]
  exact zI6 us _ _ _ ⟨u, hu, rfl⟩
 ·have hu : ∀ u ∈ us, u.1 ≠ k := fun u hu e => h1 ⟨u, hu, e⟩
  rw [zAM us (zBd m vs) k hu]
  by_cases h2 : ∃ v ∈ vs, v.1 = k
  ·exact zI6 vs _ _ k h2
  ·have hv : ∀ v ∈ vs, v.1 ≠ k := fun v hv e => h2 ⟨v, hv, e⟩
   rw [zAM vs _ k hv, zAM vs _ k hv, zAM us _ k hu]
def wrL : zBa -> List Nat
 | [] => []
 | u :: r => u.1 :: (u.1 + 2000000) :: wrL r
theorem zJg : ∀ {us : zBa}, ∀ u ∈ us, inB (wrL us) u.1 = true /\ inB (wrL us) (u.1 + 2000000) = true
 | [], u, h => by cases h
 | v :: us, u, h => by
  rcases List.mem_cons.1 h with rfl | h
  ·exact ⟨by simp [wrL, inB], by simp [wrL, inB]⟩
  ·obtain ⟨h1, h2⟩ := zJg u h
   exact ⟨by simp [wrL, inB, h1], by simp [wrL, inB, h2]⟩
theorem zML : ∀ (us : zBa) (m : Mem) (k : Nat), (∀ u ∈ us, u.1 = k -> zHn m k = some u.2.ver) -> zHn (zBd m us) k = zHn m k
 | [], m, k, _ => rfl
 | u :: us, m, k, h => by
  rw [zC0]
  have h1 : zHn (upd m u.1 (some u.2)) k = zHn m k := by
   by_cases e : u.1 = k
   ·rw [h u (List.mem_cons_self ..) e]
    unfold zHn
    rw [e, zAn]
    rfl
   ·unfold zHn
    rw [zAB _ _ (Ne.symm e)]
  rw [zML us _ k (fun v hv e => h1.trans (h v (List.mem_cons_of_mem _ hv) e)), h1]
theorem zP1 {α : Type} (f : Nat -> α) {i j : Nat} (x y : α) (h : i ≠ j) : upd (upd f i x) j y = upd (upd f j y) i x := by
 funext k
 by_cases h1 : k = i
 ·subst h1
  rw [zAB _ _ h, zAn, zAn]
 ·rw [zAB (upd f j y) _ h1]
  by_cases h2 : k = j
  ·subst h2; rw [zAn, zAn]
  ·rw [zAB _ _ h2, zAB _ _ h2, zAB _ _ h1]
theorem zMI {s : St} {dst : Option Tmp} {d : D} {us : zBa} {t : Nat} (h : ∀ k, dst = some k -> k ≠ t) : (s.app dst d us).tm t = s.tm t := by
 cases dst with
 | none => rfl
 | some k => exact zAB _ _ (Ne.symm (h k rfl))
theorem zMK {s : St} {dst : Option Tmp} {d : D} {us : zBa} (h : zJs dst = true) (g : Nat) : (s.app dst d us).tm (1000000 + g) = s.tm (1000000 + g) := by
 refine zMI fun k hk e => ?_
 subst hk
 have h1 : k < 1000000 := Nat.blt_eq.mp h
 have h2 : 1000000 <= k := by
  have h3 : k = 1000000 + g := e
  rw [h3]
  exact Nat.le_add_right ..
 exact absurd h1 (Nat.not_lt.2 h2)
theorem zKN {fi fj : FP} {oi oj : Oper} {s : St} {di : D} {usi : zBa} (hsm : zJs oi.dst = true) (h1 : ∀ d, oi.dst = some d -> d ∉ oj.looksAt ops) (h2 : zHg fi.2 fj.1 = true) (hw : ∀ u ∈ usi, inB fi.2 u.1 = true) (hwv : ∀ u ∈ usi, inB fi.2 (u.1 + 2000000) = true \/ zHn s.mem u.1 = some u.2.ver)
  (hr : ∀ x ∈ rdO oj.op, ∀ k ∈ zCO (s.ev x), inB fj.1 k = true) (hrv : ∀ x ∈ rdV oj.op, ∀ k ∈ zCO (s.ev x), inB fj.1 (k + 2000000) = true) (hd : inB fj.1 (zFk oj.dst) = true) : Same ops oj s (s.app oi.dst di usi) := by
 have hne : ∀ k, inB fj.1 k = true -> ∀ u ∈ usi, u.1 ≠ k := fun k hk u hu e => by
  have := zCy h2 u.1 (hw u hu)
  rw [e, hk] at this
  cases this
 refine ⟨fun t ht => (zMI fun k hk e => h1 k hk (e ▸ ht)).symm, fun x hx i hi => (zAM usi s.mem i (hne i (hr x hx i hi))).symm, fun x hx i hi => (zML usi s.mem i fun u hu e => ?_).symm, (zAM usi s.mem _ (hne _ hd)).symm, fun g => (zMK hsm g).symm⟩
 subst e
 rcases hwv u hu with h | h
 ·have := zCy h2 _ h
  rw [hrv x hx _ hi] at this
  cases this
 ·exact h
theorem zIC {oi oj : Oper} {s : St} {di : D} {usi : zBa} (hsm : zJs oi.dst = true) (h1 : ∀ d, oi.dst = some d -> d ∉ oj.looksAt ops) : ∀ x ∈ oj.op.operands, (s.app oi.dst di usi).ev x = s.ev x := fun x hx => by
 cases x with
 | tmp t =>
  have := zMI (s := s) (dst := oi.dst) (d := di) (us := usi) (t := t) fun k hk e => h1 k hk (e ▸ List.mem_append_left _ (List.mem_filterMap.2 ⟨.tmp t, by simpa using hx, rfl⟩))
  show (bif Nat.blt t 900000 then (s.app oi.dst di usi).tm t else .any) = bif Nat.blt t 900000 then s.tm t else .any
  rw [this]
 | global g => exact zMK hsm g
 | _ => rfl
theorem Sd.swap {fi fj : FP} {oi oj : Oper} (hin : zED ops fi fj oi oj = true) {s : St} {di dj : D} {usi usj : zBa} (hi : Sd P T nt ops fi oi s di usi) (hj : Sd P T nt ops fj oj (s.app oi.dst di usi) dj usj) :
  Sd P T nt ops fj oj s dj usj /\ Sd P T nt ops fi oi (s.app oj.dst dj usj) di usi /\ (s.app oi.dst di usi).app oj.dst dj usj = (s.app oj.dst dj usj).app oi.dst di usi := by
 simp only [zED, Bool.and_eq_true] at hin
 obtain ⟨⟨⟨⟨⟨hap, h12⟩, h22⟩, h21⟩, hsi⟩, hsj⟩ := hin
 obtain ⟨a1, a2, a3⟩ := Oper.apart_spec hap
 have hev := zIC (s := s) (di := di) (usi := usi) hsi a1
 have hrd : ∀ x ∈ rdO oj.op, ∀ k ∈ zCO (s.ev x), inB fj.1 k = true := fun x hx k hk => hj.rd x hx k (by rw [hev x (zBR hx)]; exact hk)
 have hrv : ∀ x ∈ rdV oj.op, ∀ k ∈ zCO (s.ev x), inB fj.1 (k + 2000000) = true := fun x hx k hk => hj.rv x hx k (by rw [hev x (zFt hx)]; exact hk)
 have sj : Same ops oj s (s.app oi.dst di usi) := zKN hsi a1 h12 hi.wr hi.wv hrd hrv hj.rdD
 have hmj : ∀ k, inB fj.1 k = true -> (s.app oi.dst di usi).mem k = s.mem k := fun k hk => zAM usi s.mem k fun u hu e => by
  have := zCy h12 u.1 (hi.wr u hu)
  rw [e, hk] at this
  cases this
 have hmi : ∀ k, inB fi.1 k = true -> s.mem k = (s.app oj.dst dj usj).mem k := fun k hk => (zAM usj s.mem k fun u hu e => by
  have := zCy h21 u.1 (hj.wr u hu)
  rw [e, hk] at this
  cases this).symm
 have ej : Eff1 P T nt ops fj.1 oj s dj usj := hj.eff.congr ⟨fun t ht => (sj.tm t ht).symm, fun x hx i hxi => by
  rw [hev x (zBR hx)] at hxi
  exact (sj.mem x hx i hxi).symm, fun x hx i hxi => by
  rw [hev x (zFt hx)] at hxi
  exact (sj.ver x hx i hxi).symm, sj.dst.symm, fun g => (sj.glob g).symm⟩ hmj
 have hwj : ∀ u ∈ usj, inB fj.2 (u.1 + 2000000) = true \/ zHn s.mem u.1 = some u.2.ver := fun u hu => (hj.wv u hu).imp id fun h => by
  have e : (s.app oi.dst di usi).mem u.1 = s.mem u.1 := zAM usi s.mem u.1 fun v hv e => by
   have := zCy h22 v.1 (hi.wr v hv)
   rw [e, hj.wr u hu] at this
   cases this
  unfold zHn at h ⊢
  rw [e] at h
  exact h
 have hwi : ∀ u ∈ usi, inB fi.2 (u.1 + 2000000) = true \/ zHn (s.app oj.dst dj usj).mem u.1 = some u.2.ver := fun u hu => (hi.wv u hu).imp id fun h => by
  have e : (s.app oj.dst dj usj).mem u.1 = s.mem u.1 := zAM usj s.mem u.1 fun v hv e => by
   have := zCy h22 u.1 (hi.wr u hu)
   rw [<-e, hj.wr v hv] at this
   cases this
  unfold zHn at h ⊢
  rw [e]
  exact h
 have si : Same ops oi s (s.app oj.dst dj usj) := zKN hsj a3 h21 hj.wr hwj hi.rd hi.rv hi.rdD
 have hev' := zIC (s := s) (di := dj) (usi := usj) hsj a3
 refine ⟨⟨ej, hrd, hj.rdD, hj.wr, hrv, hwj⟩, ⟨hi.eff.congr si hmi, fun x hx k hk => hi.rd x hx k (by rw [hev' x (zBR hx)] at hk; exact hk), hi.rdD, hi.wr, fun x hx k hk => hi.rv x hx k (by rw [hev' x (zFt hx)] at hk; exact hk), hwi⟩, ?_⟩
 have hm : zBd (zBd s.mem usi) usj = zBd (zBd s.mem usj) usi := zPE _ _ _ fun u hu v hv e => by
  have := zCy h22 u.1 (hi.wr u hu)
  rw [e, hj.wr v hv] at this
  cases this
 unfold St.app
 congr 1
 cases hdi : oi.dst with
 | none => rfl
 | some a => cases hdj : oj.dst with
  | none => rfl
  | some b => exact zP1 _ _ _ fun e => a2 a hdi (by rw [hdj, e])
def zR8 (P : Program) (T : Nat -> Option TI) (nt : Nat) (md : Region.Mode) (ops : Array Oper) (fps : List FP) (K : St -> Prop) : Nat -> Array Bool -> St -> Prop
 | 0, listed, s => Region.ready md ops listed = [] /\ K s
 | fuel + 1, listed, s => (Region.ready md ops listed = [] -> K s) ∧
  ∀ i ∈ Region.ready md ops listed, ∃ o d us, ops[i]? = some o /\ Sd P T nt ops (fps.getD i ([], [])) o s d us /\ zR8 P T nt md ops fps K fuel (listed.setIfInBounds i true) (s.app o.dst d us)
def zI9 (md : Region.Mode) (ops : Array Oper) (listed : Array Bool) (i : Nat) (B : List Nat) (b : Nat) : Prop :=
 listed.getD b true = false /\ ∃ ob, ops[b]? = some ob /\ ∃ e ∈ ob.after, Region.binds md e = true /\ (e.on = i \/ inB B e.on = true)
theorem zH5 {md : Region.Mode} {fps : List FP} {K : St -> Prop} {i : Nat} {oi : Oper} (hi : ops[i]? = some oi) {B : List Nat} :
  ∀ (fuel : Nat) (listed : Array Bool) (s : St) {d : D} {us : zBa},
   (∀ b, inB B b = true -> zI9 md ops listed i B b) ->
   (∀ j oj, ops[j]? = some oj -> j ≠ i -> listed.getD j true = false -> inB B j = false -> zED ops (fps.getD i ([], [])) (fps.getD j ([], [])) oi oj = true) ->
   i ∈ Region.ready md ops listed -> Sd P T nt ops (fps.getD i ([], [])) oi s d us ->
   zR8 P T nt md ops fps K fuel (listed.setIfInBounds i true) (s.app oi.dst d us) -> zR8 P T nt md ops fps K (fuel + 1) listed s := by
 intro fuel
 induction fuel with
 | zero =>
  intro listed s d us _ _ hr hS H
  refine ⟨fun h => (by rw [h] at hr; cases hr), fun j hj => ?_⟩
  by_cases hji : j = i
  ·subst hji; exact ⟨oi, d, us, hi, hS, H⟩
  ·have := ready_mono hj hji
   rw [H.1] at this
   cases this
 | succ fuel ih =>
  intro listed s d us hw hfree hr hS H
  refine ⟨fun h => (by rw [h] at hr; cases hr), fun j hj => ?_⟩
  by_cases hji : j = i
  ·subst hji; exact ⟨oi, d, us, hi, hS, H⟩
  ·obtain ⟨oj, dj, usj, hoj, hSj, HH⟩ := H.2 j (ready_mono hj hji)
   obtain ⟨hjun, oj', hoj', hall⟩ := mem_ready.1 hj
   rw [hoj] at hoj'
   cases hoj'
   have hoff : ∀ k, listed.getD k true = false -> ¬ listed[k]? = some true := fun k h0 h1 => by
    rw [Array.getD_eq_getD_getElem?, h1] at h0
    cases h0
   have hnot : inB B j = false := by
    cases hB : inB B j with
    | false => rfl
    | true =>
     obtain ⟨_, ob, hob, e, he, hb, h2⟩ := hw j hB
     rw [hoj] at hob
     cases hob
     have h1 := hall e he hb
     rcases h2 with h2 | h2
     ·have h0 := (mem_ready.1 hr).1
      rw [h2] at h1
      exact absurd h1 (by
       rcases Nat.lt_or_ge i listed.size with h' | h'
       ·simp [h'] at h0 ⊢; exact h0
       ·simp [Array.getElem?_eq_none h'])
     ·have h0 := (hw _ h2).1
      exact absurd h1 (by
       rcases Nat.lt_or_ge e.on listed.size with h' | h'
       ·simp [h'] at h0 ⊢; exact h0
       ·simp [Array.getElem?_eq_none h'])
   obtain ⟨k1, k2, k3⟩ := Sd.swap (hfree j oj hoj hji hjun hnot) hS hSj
   have hw' : ∀ b, inB B b = true -> zI9 md ops (listed.setIfInBounds j true) i B b := fun b hb => by
    obtain ⟨w1, w2⟩ := hw b hb
    refine ⟨?_, w2⟩
    by_cases hjb : j = b
    ·subst hjb; rw [hnot] at hb; cases hb
    ·rw [getD_set_ne true hjb]; exact w1
   have hfree' : ∀ k ok, ops[k]? = some ok -> k ≠ i -> (listed.setIfInBounds j true).getD k true = false ->
     inB B k = false -> zED ops (fps.getD i ([], [])) (fps.getD k ([], [])) oi ok = true := fun k ok hk hki hun hno => by
    refine hfree k ok hk hki ?_ hno
    by_cases hjk : j = k
    ·subst hjk; exact hjun
    ·rw [getD_set_ne true hjk] at hun; exact hun
   refine ⟨oj, dj, usj, hoj, k1, ih (listed.setIfInBounds j true) _ hw' hfree' (ready_mono hr (Ne.symm hji)) k2 ?_⟩
   rw [Array.setIfInBounds_comm _ _ hji, <-k3]
   exact HH
def zR3 (md : Region.Mode) (ops : Array Oper) (listed : Array Bool) (k : Nat) : List Nat -> List Nat -> List Nat
 | [], B => B
 | j :: r, B =>
  match ops[j]? with
  | some oj => bif !listed.getD j true && oj.after.any (fun e => Region.binds md e && (Nat.beq e.on k || inB B e.on)) then zR3 md ops listed k r (j :: B) else zR3 md ops listed k r B
  | none => zR3 md ops listed k r B
theorem zI9.mono {md : Region.Mode} {listed : Array Bool} {i b : Nat} {B B' : List Nat} (h : ∀ x, inB B x = true -> inB B' x = true) (hw : zI9 md ops listed i B b) : zI9 md ops listed i B' b := by
 obtain ⟨w1, ob, w2, e, w3, w4, w5⟩ := hw
 exact ⟨w1, ob, w2, e, w3, w4, w5.imp id (h _)⟩
theorem zFN {md : Region.Mode} {listed : Array Bool} {k : Nat} : ∀ (l B : List Nat), (∀ b, inB B b = true -> zI9 md ops listed k B b) ->
  (∀ b, inB (zR3 md ops listed k l B) b = true -> zI9 md ops listed k (zR3 md ops listed k l B) b)
 | [], B, h => h
 | j :: r, B, h => by
  rw [zR3]
  split
  ·rename_i oj hoj
   cases hc : (!listed.getD j true && oj.after.any (fun e => Region.binds md e && (Nat.beq e.on k || inB B e.on))) with
   | false => exact zFN r B h
   | true =>
    simp only [cond_true]
    refine zFN r (j :: B) fun b hb => ?_
    have hsub : ∀ x, inB B x = true -> inB (j :: B) x = true := fun x hx => by simp [inB, hx]
    simp only [inB, Bool.or_eq_true] at hb
    rcases hb with hb | hb
    ·obtain rfl := Nat.eq_of_beq_eq_true hb
     simp only [Bool.and_eq_true, Bool.not_eq_true'] at hc
     obtain ⟨c1, c2⟩ := hc
     rw [Array.any_eq_true'] at c2
     obtain ⟨e, he, hbn⟩ := c2
     simp only [Bool.and_eq_true, Bool.or_eq_true] at hbn
     exact ⟨c1, oj, hoj, e, he, hbn.1, hbn.2.imp Nat.eq_of_beq_eq_true (hsub _)⟩
    ·exact (h b hb).mono hsub
  ·exact zFN r B h
def zSQ (md : Region.Mode) (ops : Array Oper) (fps : List FP) (listed : Array Bool) (k : Nat) : Bool :=
 (List.range ops.size).all fun j =>
  match ops[j]?, ops[k]? with
  | some oj, some ok => Nat.beq j k || listed.getD j true || zED ops (fps.getD k ([], [])) (fps.getD j ([], [])) ok oj || inB (zR3 md ops listed k (List.range ops.size) []) j
  | _, _ => true
def zQG (md : Region.Mode) (ops : Array Oper) (fps : List FP) : Nat -> Nat -> Array Bool -> Bool
 | 0, _, listed => (Region.ready md ops listed).isEmpty
 | fuel + 1, k, listed => (Region.ready md ops listed).contains k && zSQ md ops fps listed k && zQG md ops fps fuel (k + 1) (listed.setIfInBounds k true)
theorem zFC {md : Region.Mode} {fps : List FP} {listed : Array Bool} {k : Nat} {ok : Oper} (hk : ops[k]? = some ok) (h : zSQ md ops fps listed k = true) : ∀ j oj, ops[j]? = some oj -> j ≠ k -> listed.getD j true = false -> inB (zR3 md ops listed k (List.range ops.size) []) j = false ->
  zED ops (fps.getD k ([], [])) (fps.getD j ([], [])) ok oj = true := by
 intro j oj hj hjk hun hno
 have := List.all_eq_true.1 h j (List.mem_range.2 (Array.getElem?_eq_some_iff.1 hj).1)
 rw [hj, hk] at this
 simp only [Bool.or_eq_true] at this
 rcases this with ((h1 | h1) | h1) | h1
 ·exact absurd (Nat.eq_of_beq_eq_true h1) hjk
 ·rw [hun] at h1; cases h1
 ·exact h1
 ·rw [hno] at h1; cases h1
inductive LexD (P : Program) (T : Nat -> Option TI) (nt : Nat) (ops : Array Oper) : List Oper -> St -> List FP -> St -> Prop
 | nil (s : St) : LexD P T nt ops [] s [] s
 | cons {o : Oper} {r : List Oper} {s s2 : St} {fp : FP} {fps : List FP} {d : D} {us : zBa} (h : Sd P T nt ops fp o s d us) (k : LexD P T nt ops r (s.app o.dst d us) fps s2) : LexD P T nt ops (o :: r) s (fp :: fps) s2
theorem zMN {md : Region.Mode} {fps : List FP} {K : St -> Prop} {sf : St} (hK : K sf) : ∀ (l : List Oper) (k : Nat) (listed : Array Bool) (s : St) (fl : List FP), (∀ j, l[j]? = ops[k + j]?) -> (∀ j, fl[j]? = fps[k + j]?) -> LexD P T nt ops l s fl sf ->
  zQG md ops fps l.length k listed = true -> zR8 P T nt md ops fps K l.length listed s
 | [], k, listed, s, fl, _, _, h, hB => by
  cases h
  exact ⟨by simpa [zQG] using hB, hK⟩
 | o :: l, k, listed, s, fl, hl, hf, h, hB => by
  cases h with
  | cons hS hk =>
   rename_i fp fps' d us
   have h0 : ops[k]? = some o := by simpa using (hl 0).symm
   have hfp : fps.getD k ([], []) = fp := by
    have : fps[k]? = some fp := by simpa using (hf 0).symm
    rw [List.getD_eq_getElem?_getD, this]; rfl
   simp only [List.length_cons, zQG, Bool.and_eq_true] at hB
   obtain ⟨⟨hr, hfree⟩, hB'⟩ := hB
   exact zH5 h0 l.length listed s (zFN _ [] fun b hb => nomatch (show false = true from hb)) (zFC h0 hfree) (by simpa using hr) (by rw [hfp]; exact hS)
    (zMN hK l (k + 1) _ _ fps' (fun j => by have := hl (j + 1); simpa [Nat.add_assoc, Nat.add_comm 1 j] using this) (fun j => by have := hf (j + 1); simpa [Nat.add_assoc, Nat.add_comm 1 j] using this) hk hB')
theorem zEa (hT : TOk P T) (hnt : X.nt = nt) {md : Region.Mode} {fps : List FP} {K : St -> Prop} {Q : Exit -> Act -> World -> Prop} (hQ : ∀ s a w, K s -> R X s a w -> Q .normal a w) : ∀ (fuel : Nat) (listed : Array Bool) (s : St) (a : Act) (w : World), R X s a w ->
  zR8 P T nt md ops fps K fuel listed s -> wpAny P md ops Q fuel listed a w
 | 0, _, s, a, w, hR, h => ⟨h.1, hQ s a w h.2 hR⟩
 | fuel + 1, listed, s, a, w, hR, h => ⟨fun h0 => hQ s a w (h.1 h0) hR, fun i hi => by
  obtain ⟨o, d, us, ho, hS, hA⟩ := h.2 i hi
  have := hS.eff.sound hT hnt Q a w hR
  unfold wpOp
  rw [ho]
  simp only
  split
  ·rename_i hw
   rw [if_pos hw] at this
   exact .inl (Oper.wp_mono (fun a w hr => zEa hT hnt hQ fuel _ _ a w hr hA) this)
  ·rename_i hw
   rw [if_neg hw] at this
   exact zEa hT hnt hQ fuel _ _ _ _ this hA⟩
theorem zAK (hT : TOk P T) (hnt : X.nt = nt) (hm : P.follows .mixedOrders = true) {id : Nat} {s sf : St} {fps : List FP} {Q : Exit -> St -> Prop} (h : LexD P T nt ops ops.toList s fps sf)
  (hB : zQG .any ops fps ops.size 0 (Array.replicate ops.size false) = true) (hQ : Q .normal sf) : Tr P X (.region id ops true) s Q := by
 intro a w ⟨μ, hM, hsz, hdf, hr⟩
 refine wp_region_any hm ?_
 obtain ⟨h1, h2⟩ := hM.same (w' := { w with drawn := w.drawn + 1 }) rfl rfl rfl rfl
 have hR : R X s a { w with drawn := w.drawn + 1 } := ⟨μ, h1, hsz, hdf, fun t => (hr t).kept h2⟩
 have := zMN (P := P) (T := T) (nt := nt) (md := .any) (fps := fps) (K := Q .normal) hQ ops.toList 0 (Array.replicate ops.size false) s fps (by simp) (by simp) h (by simpa using hB)
 exact zEa hT hnt (fun s a w hK hR => ⟨s, hK, hR⟩) _ _ _ a _ hR (by simpa using this)
end
end Go.Proofs.YtcdifgacoleckaaGreatDoor.Ab
