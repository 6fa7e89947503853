/- Regions that draw their order: one run in the order of the text serves every order, where operations that do not wait for one another are apart. No condition. -/
import Derived.Test.YtcjeeoimjkhijaaDoorAb27
import Derived.Still
namespace Go.Proofs.YtcjeeoimjkhijaaDoor.Ab
open Go Go.RowKit

/-- the effect of one operation, a call or another; r: the blocks that it reads; it writes those of us -/
inductive Eff1 (P : Program) (T : Nat → Option TI) (nt : Nat) (ops : Array Oper) (o : Oper) (s : St) : D → Upds → Prop
  | op {φ : Prop} {d : D} {us : Upds} (h : stepE T nt ops s o = some ⟨φ, d, us⟩) (hφ : φ) : Eff1 P T nt ops o s d us
  | call {fo : Operand} {f : Nat} {args : Array Operand} {ts : Array TypeId} {as : List D} {us : Upds} {r : D} (hop : o.op = .call ⟨.value fo, args, ts⟩) (hgd : gdOf ops s o = .free) (hfo : (s.ev fo).strip = .one (.clo f []))
      (has : dataL s.mem (args.toList.map fun x => (s.ev x).strip) = some (as, us)) (hn : ∀ p ∈ needL s (fo :: args.toList), p) (hfn : FnD P f as r) (hd : dstOk nt o.dst = true) : Eff1 P T nt ops o s r us
  | ext {fo : Operand} {f : Nat} {args : Array Operand} {ts : Array TypeId} {as : List D} {us : Upds} {r : D} (hop : o.op = .call ⟨.value fo, args, ts⟩) (hgd : gdOf ops s o = .free) (hfo : (s.ev fo).strip = .one (.clo f []))
      (has : dataL s.mem (args.toList.map fun x => (s.ev x).strip) = some (as, us)) (hn : ∀ p ∈ needL s (fo :: args.toList), p) (hfn : FnE P f as r) (hd : dstOk nt o.dst = true) : Eff1 P T nt ops o s r us
  | callC {fo : Operand} {f : Nat} {caps : List (Nat × Nat × Nat)} {args : Array Operand} {ts : Array TypeId} {as : List D} {us : Upds} {r : D} (hop : o.op = .call ⟨.value fo, args, ts⟩) (hgd : gdOf ops s o = .free) (hfo : (s.ev fo).strip = .one (.clo f caps))
      (has : dataL s.mem ((args.toList.map fun x => (s.ev x).strip) ++ capD caps) = some (as, us)) (hn : ∀ p ∈ needL s (fo :: args.toList), p) (hfn : FnD P f as r) (hd : dstOk nt o.dst = true) : Eff1 P T nt ops o s r us
  | callG {fo : Operand} {f : Nat} {args : Array Operand} {ts : Array TypeId} {q : Prop} {as : List D} {r : D} (hop : o.op = .call ⟨.value fo, args, ts⟩) (hgd : gdOf ops s o = .iff q) (hfo : (s.ev fo).strip = .one (.clo f []))
      (has : dataL s.mem (args.toList.map fun x => (s.ev x).strip) = some (as, [])) (hn : q → ∀ p ∈ needL s (fo :: args.toList), p) (hfn : q → FnD P f as r) (hd : dstOk nt o.dst = true) : Eff1 P T nt ops o s (.gd q r) []
  | callV {gs : List (Nat × List E)} {fo : Operand} {f : Nat} {args : Array Operand} {ts : Array TypeId} {as : List D} {us : Upds} {r : D} (hop : o.op = .call ⟨.value fo, args, ts⟩) (hgd : gdOf ops s o = .free) (hfo : (s.ev fo).strip = .one (.clo f []))
      (has : dataL s.mem (args.toList.map fun x => (s.ev x).strip) = some (as, us)) (hn : ∀ p ∈ needL s (fo :: args.toList), p) (hgl : ∀ x ∈ gs, s.tm (1000000 + x.1) = .one (.eptr x.2)) (hfn : FnG P f gs as r) (hd : dstOk nt o.dst = true) : Eff1 P T nt ops o s r us
  | callVG {gs : List (Nat × List E)} {fo : Operand} {f : Nat} {args : Array Operand} {ts : Array TypeId} {q : Prop} {as : List D} {r : D} (hop : o.op = .call ⟨.value fo, args, ts⟩) (hgd : gdOf ops s o = .iff q) (hfo : (s.ev fo).strip = .one (.clo f []))
      (has : dataL s.mem (args.toList.map fun x => (s.ev x).strip) = some (as, [])) (hn : q → ∀ p ∈ needL s (fo :: args.toList), p) (hgl : ∀ x ∈ gs, s.tm (1000000 + x.1) = .one (.eptr x.2)) (hfn : q → FnG P f gs as r) (hd : dstOk nt o.dst = true) : Eff1 P T nt ops o s (.gd q r) []
  | callO {gs : List (Nat × List E)} {fo : Operand} {f t i v : Nat} {b : Blk} {args : Array Operand} {ts : Array TypeId} {as : List D} (hop : o.op = .call ⟨.value fo, args, ts⟩) (hgd : gdOf ops s o = .free) (hfo : (s.ev fo).strip = .one (.clo f []))
      (has : dataL s.mem (args.toList.map fun x => (s.ev x).strip) = some (as, [])) (hn : ∀ p ∈ needL s (fo :: args.toList), p) (hgl : ∀ x ∈ gs, s.tm (1000000 + x.1) = .one (.eptr x.2)) (hfn : FnO P f gs as (.one (.own i v)) [(i, b)]) (hb : b.isE = true) (hit : Nat.ble i t = true) (hdst : o.dst = some t) (hd : Nat.blt t nt = true) : Eff1 P T nt ops o s (.one (.own t (v + nv s.mem t))) [(t, ⟨b.ver + nv s.mem t, b.body, b.pub⟩)]

theorem memO_one (m : Mem) {i t : Nat} (hit : Nat.ble i t = true) (b : Blk) : memO m [(i, b)] (t - i) = upd m t (some ⟨b.ver + nv m t, b.body, b.pub⟩) := by
  have hit := Nat.le_of_ble_eq_true hit
  funext id
  unfold memO newB lookM lookM
  by_cases h : id = t
  · subst h
    rw [show Nat.ble (id - i) id = true from Nat.ble_eq_true_of_le (Nat.sub_le ..), show id - (id - i) = i by omega, show Nat.beq i i = true from Nat.beq_refl i]
    simp [upd]
  · have : (bif Nat.ble (t - i) id then bif Nat.beq (id - (t - i)) i then some b else none else none) = none := by
      cases h1 : Nat.ble (t - i) id with
      | false => rfl
      | true =>
        have h1 := Nat.le_of_ble_eq_true h1
        cases h2 : Nat.beq (id - (t - i)) i with
        | false => rfl
        | true => have h2 := Nat.eq_of_beq_eq_true h2; exact absurd (by omega) h
    rw [this]
    have hb : Nat.beq id t = false := by cases hb : Nat.beq id t with | true => exact absurd (Nat.eq_of_beq_eq_true hb) h | false => rfl
    show m id = bif Nat.beq id t then _ else m id
    rw [hb]
    rfl

section
variable {P : Program} {T : Nat → Option TI} {X : Ctx} {nt : Nat} {ops : Array Oper}

theorem Eff1.sound (hT : TOk P T) (hnt : X.nt = nt) {o : Oper} {s : St} {d : D} {us : Upds} (h : Eff1 P T nt ops o s d us) : OpT P X ops o s (s.app o.dst d us) := by
  subst hnt
  cases h with
  | op h hφ => exact step_sound hT h hφ
  | call hop hgd hfo has hn hfn hd => exact opT_call hop hgd hfo has hn hfn hd
  | ext hop hgd hfo has hn hfn hd => exact opT_ext hop hgd hfo has hn hfn hd
  | callC hop hgd hfo has hn hfn hd => exact opT_callC hop hgd hfo has hn hfn hd
  | callG hop hgd hfo has hn hfn hd => exact opT_callG hop hgd hfo has hn hfn hd
  | callV hop hgd hfo has hn hgl hfn hd => exact opT_callV hop hgd hfo has hn hgl hfn hd
  | callVG hop hgd hfo has hn hgl hfn hd => exact opT_callVG hop hgd hfo has hn hgl hfn hd
  | callO hop hgd hfo has hn hgl hfn hb hit hdst hd =>
    rename_i gs fo f t i v b args ts as
    have h := opT_callO (P := P) (X := X) (ops := ops) (s := s) (o := o) (us := []) (base := t - i) (r' := .one (.own t (v + nv s.mem t))) hop hgd hfo has hn hgl hfn (by simp [hb]) (by
      have := Nat.le_of_ble_eq_true hit
      show some (D.one (.own (t - i + i) (v + nv s.mem (t - i + i)))) = _
      rw [Nat.sub_add_cancel this]) hdst hd
    rw [show s.app o.dst (.one (.own t (v + nv s.mem t))) [(t, ⟨b.ver + nv s.mem t, b.body, b.pub⟩)] = ⟨upd s.tm t (.one (.own t (v + nv s.mem t))), memO (appU s.mem []) [(i, b)] (t - i)⟩ by
      rw [memO_one _ hit]; unfold St.app; rw [hdst]; rfl]
    exact h

theorem dataD_congr {m m' : Mem} {d : D} (h : Alk m m' d) : dataD m d = dataD m' d := by
  unfold dataD
  split
  · rfl
  · rename_i i v o; rw [h i (by simp [idsD, ids0])]
  · rename_i x _; rw [frz_congr (fun i hi => h i (by simpa [idsD] using hi))]
  · rename_i c; rw [frzC_congr (fun i hi => h i (by simpa [idsD] using hi))]
  · rfl
theorem dataL_congr {m m' : Mem} : ∀ {l : List D}, (∀ d ∈ l, Alk m m' d) → dataL m l = dataL m' l
  | [], _ => rfl
  | d :: r, h => by rw [dataL, dataL, dataD_congr (h d (by simp)), dataL_congr (fun d hd => h d (by simp [hd]))]

theorem capD_alk {m m' : Mem} : ∀ {caps : List (Nat × Nat × Nat)}, (∀ c ∈ caps, m c.1 = m' c.1) → ∀ d ∈ capD caps, Alk m m' d
  | [], _, d, hd => by cases hd
  | c :: caps, hA, d, hd => by
    rcases List.mem_cons.1 hd with rfl | hd
    · intro i hi
      simp [idsD, ids0] at hi
      subst hi
      exact hA c (List.mem_cons_self ..)
    · exact capD_alk (fun c hc => hA c (List.mem_cons_of_mem _ hc)) d hd
theorem gd_congr {o : Oper} {s s' : St} (h : Same ops o s s') : gdOf ops s o = gdOf ops s' o := by
  unfold gdOf
  split
  · rfl
  · rename_i g b hg
    split
    · rename_i og hog
      split
      · rename_i t ht
        rw [h.tm t (by unfold Oper.looksAt; rw [hg]; simp [hog, ht])]
      · rfl
    · rfl

theorem needL_congr {s s' : St} : ∀ {l : List Operand}, (∀ x ∈ l, s.ev x = s'.ev x) → needL s l = needL s' l
  | [], _ => rfl
  | x :: r, h => by rw [needL, needL, h x (by simp), needL_congr (fun x hx => h x (by simp [hx]))]

theorem stepE_congr {o : Oper} {s s' : St} (h : Same ops o s s') : stepE T nt ops s o = stepE T nt ops s' o := by
  have hraw : rawE T s (dstId o.dst) o.op = rawE T s' (dstId o.dst) o.op := by
    by_cases hp : ∃ c x y, o.op = .pick c x y
    · obtain ⟨c, x, y, ho⟩ := hp
      rw [ho]
      show pickE s c x y = pickE s' c x y
      unfold pickE
      rw [h.ev c (by rw [ho]; simp [Op.operands]), h.ev x (by rw [ho]; simp [Op.operands]), h.ev y (by rw [ho]; simp [Op.operands])]
    · unfold rawE
      split
      · rename_i ho; exact absurd ⟨_, _, _, ho⟩ hp
      · rw [eff_congr (m' := s'.mem) (fun x hx => alk_strip (h.mem x hx)) h.dst, effEv_congr (ev' := fun x => (s'.ev x).strip) (fun x hx => by simp only [h.ev x hx]), needL_congr (fun x hx => h.ev x (by simpa using hx))]
  have hI : ∀ id, id = dstId o.dst → stepI T ops s o id = stepI T ops s' o id := fun id e => by
    subst e
    unfold stepI
    rw [gd_congr h, hraw]
  unfold stepE
  split
  · rename_i t ht; rw [hI t (by rw [ht]; rfl)]
  · rename_i ht; rw [hI 0 (by rw [ht]; rfl)]

theorem args_congr {o : Oper} {s s' : St} (h : Same ops o s s') {c : Call} (hc : o.op = .call c) {l : List Operand} (hl : ∀ x ∈ l, x ∈ o.op.operands) : dataL s.mem (l.map fun x => (s.ev x).strip) = dataL s'.mem (l.map fun x => (s'.ev x).strip) := by
  rw [show (l.map fun x => (s'.ev x).strip) = l.map fun x => (s.ev x).strip from List.map_congr_left fun x hx => by rw [h.ev x (hl x hx)]]
  refine dataL_congr fun d hd => ?_
  obtain ⟨x, hx, rfl⟩ := List.mem_map.1 hd
  exact alk_strip (h.mem x (rdO_call hc (hl x hx)))
theorem Eff1.congr {o : Oper} {s s' : St} {d : D} {us : Upds} (h : Same ops o s s') (k : Eff1 P T nt ops o s d us) : Eff1 P T nt ops o s' d us := by
  cases k with
  | op hs hφ => exact .op (by rw [← stepE_congr h]; exact hs) hφ
  | call hop hgd hfo has hn hfn hd =>
    have hargs : ∀ x ∈ (_ : Array Operand).toList, x ∈ o.op.operands := fun x hx => by
      rw [hop]; simp only [Op.operands, Call.operands]; simp at hx ⊢; exact .inr hx
    refine .call hop (by rw [← gd_congr h]; exact hgd) (by rw [← h.ev _ (by rw [hop]; simp [Op.operands, Call.operands])]; exact hfo) (as := _) ?_ ?_ hfn hd
    · rw [← has]
      exact (args_congr h hop hargs).symm
    · rw [← needL_congr (s := s) fun x hx => by
        rcases List.mem_cons.1 hx with rfl | hx
        · exact h.ev _ (by rw [hop]; simp [Op.operands, Call.operands])
        · exact h.ev x (hargs x hx)]
      exact hn
  | ext hop hgd hfo has hn hfn hd =>
    have hargs : ∀ x ∈ (_ : Array Operand).toList, x ∈ o.op.operands := fun x hx => by
      rw [hop]; simp only [Op.operands, Call.operands]; simp at hx ⊢; exact .inr hx
    refine .ext hop (by rw [← gd_congr h]; exact hgd) (by rw [← h.ev _ (by rw [hop]; simp [Op.operands, Call.operands])]; exact hfo) (as := _) ?_ ?_ hfn hd
    · rw [← has]
      exact (args_congr h hop hargs).symm
    · rw [← needL_congr (s := s) fun x hx => by
        rcases List.mem_cons.1 hx with rfl | hx
        · exact h.ev _ (by rw [hop]; simp [Op.operands, Call.operands])
        · exact h.ev x (hargs x hx)]
      exact hn
  | callC hop hgd hfo has hn hfn hd =>
    rename_i fo f caps args ts as
    have hargs : ∀ x ∈ args.toList, x ∈ o.op.operands := fun x hx => by
      rw [hop]; simp only [Op.operands, Call.operands]; simp at hx ⊢; exact .inr hx
    have hfm : fo ∈ o.op.operands := by rw [hop]; simp [Op.operands, Call.operands]
    refine .callC hop (by rw [← gd_congr h]; exact hgd) (by rw [← h.ev _ hfm]; exact hfo) (as := _) ?_ ?_ hfn hd
    · rw [← has, show (args.toList.map fun x => (s'.ev x).strip) = args.toList.map fun x => (s.ev x).strip from List.map_congr_left fun x hx => by rw [h.ev x (hargs x hx)]]
      refine (dataL_congr fun d hd => ?_).symm
      rcases List.mem_append.1 hd with hd | hd
      · obtain ⟨x, hx, rfl⟩ := List.mem_map.1 hd
        exact alk_strip (h.mem x (rdO_call hop (hargs x hx)))
      · have hA : Alk s.mem s'.mem (.one (.clo f caps)) := hfo ▸ alk_strip (h.mem fo (rdO_call hop hfm))
        have hA : ∀ c ∈ caps, s.mem c.1 = s'.mem c.1 := fun c hc => hA c.1 (by simp only [idsD, ids0]; exact List.mem_map_of_mem hc)
        exact capD_alk hA d hd
    · rw [← needL_congr (s := s) fun x hx => by
        rcases List.mem_cons.1 hx with rfl | hx
        · exact h.ev _ hfm
        · exact h.ev x (hargs x hx)]
      exact hn
  | callG hop hgd hfo has hn hfn hd =>
    have hargs : ∀ x ∈ (_ : Array Operand).toList, x ∈ o.op.operands := fun x hx => by
      rw [hop]; simp only [Op.operands, Call.operands]; simp at hx ⊢; exact .inr hx
    refine .callG hop (by rw [← gd_congr h]; exact hgd) (by rw [← h.ev _ (by rw [hop]; simp [Op.operands, Call.operands])]; exact hfo) (as := _) ?_ ?_ hfn hd
    · rw [← has]
      exact (args_congr h hop hargs).symm
    · rw [← needL_congr (s := s) fun x hx => by
        rcases List.mem_cons.1 hx with rfl | hx
        · exact h.ev _ (by rw [hop]; simp [Op.operands, Call.operands])
        · exact h.ev x (hargs x hx)]
      exact hn
  | callV hop hgd hfo has hn hgl hfn hd =>
    have hargs : ∀ x ∈ (_ : Array Operand).toList, x ∈ o.op.operands := fun x hx => by
      rw [hop]; simp only [Op.operands, Call.operands]; simp at hx ⊢; exact .inr hx
    refine .callV hop (by rw [← gd_congr h]; exact hgd) (by rw [← h.ev _ (by rw [hop]; simp [Op.operands, Call.operands])]; exact hfo) (as := _) ?_ ?_ (fun x hx => (h.glob x.1) ▸ hgl x hx) hfn hd
    · rw [← has]
      exact (args_congr h hop hargs).symm
    · rw [← needL_congr (s := s) fun x hx => by
        rcases List.mem_cons.1 hx with rfl | hx
        · exact h.ev _ (by rw [hop]; simp [Op.operands, Call.operands])
        · exact h.ev x (hargs x hx)]
      exact hn
  | callVG hop hgd hfo has hn hgl hfn hd =>
    have hargs : ∀ x ∈ (_ : Array Operand).toList, x ∈ o.op.operands := fun x hx => by
      rw [hop]; simp only [Op.operands, Call.operands]; simp at hx ⊢; exact .inr hx
    refine .callVG hop (by rw [← gd_congr h]; exact hgd) (by rw [← h.ev _ (by rw [hop]; simp [Op.operands, Call.operands])]; exact hfo) (as := _) ?_ ?_ (fun x hx => (h.glob x.1) ▸ hgl x hx) hfn hd
    · rw [← has]
      exact (args_congr h hop hargs).symm
    · rw [← needL_congr (s := s) fun x hx => by
        rcases List.mem_cons.1 hx with rfl | hx
        · exact h.ev _ (by rw [hop]; simp [Op.operands, Call.operands])
        · exact h.ev x (hargs x hx)]
      exact hn
  | callO hop hgd hfo has hn hgl hfn hb hit hdst hd =>
    rename_i gs fo f t i v b args ts as
    have hargs : ∀ x ∈ args.toList, x ∈ o.op.operands := fun x hx => by
      rw [hop]; simp only [Op.operands, Call.operands]; simp at hx ⊢; exact .inr hx
    have hnv : nv s.mem t = nv s'.mem t := by
      have h1 := h.dst
      rw [hdst] at h1
      unfold nv
      rw [show s.mem t = s'.mem t from h1]
    rw [hnv]
    refine .callO hop (by rw [← gd_congr h]; exact hgd) (by rw [← h.ev _ (by rw [hop]; simp [Op.operands, Call.operands])]; exact hfo) (as := as) ?_ ?_ (fun x hx => (h.glob x.1) ▸ hgl x hx) hfn hb hit hdst hd
    · rw [← has]
      exact (args_congr h hop hargs).symm
    · rw [← needL_congr (s := s) fun x hx => by
        rcases List.mem_cons.1 hx with rfl | hx
        · exact h.ev _ (by rw [hop]; simp [Op.operands, Call.operands])
        · exact h.ev x (hargs x hx)]
      exact hn
end
end Go.Proofs.YtcjeeoimjkhijaaDoor.Ab
