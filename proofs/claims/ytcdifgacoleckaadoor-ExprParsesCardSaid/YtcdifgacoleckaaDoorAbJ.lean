/- Calls that lend, in regions that draw their order. No condition. -/
import Derived.Test.YtcdifgacoleckaaDoorAbG
namespace Go.Proofs.YtcdifgacoleckaaDoor.Ab
open Go Go.RowKit

def lendU (m : Mem) (ms' : List (Nat × Blk)) (L A : List (Nat × Nat)) : List (Nat × Nat) → Upds
  | [] => []
  | y :: r => match lookM ms' y.1 with
    | some b => (y.2, b.out (rnOut m L A) (verOf m y.2)) :: lendU m ms' L A r
    | none => lendU m ms' L A r
def comeU (m : Mem) (ms' : List (Nat × Blk)) (L A : List (Nat × Nat)) : List (Nat × Nat) → Upds
  | [] => []
  | y :: r => match lookM ms' y.1 with
    | some b => (y.2, b.out (rnOut m L A) (nv m y.2)) :: comeU m ms' L A r
    | none => comeU m ms' L A r
def goneU (m : Mem) : List (Nat × Nat) → Upds
  | [] => []
  | y :: r => (y.2, ⟨nv m y.2, .row 1 [], 0⟩) :: goneU m r
def updsH (m : Mem) (ms' : List (Nat × Blk)) (L K A : List (Nat × Nat)) : Upds := goneU m K ++ (comeU m ms' L A A ++ lendU m ms' L A L)
def idsH (L K A : List (Nat × Nat)) : List Nat := (K ++ (A ++ L)).map (·.2)

theorem mem_lendU {m : Mem} {ms' : List (Nat × Blk)} {L A : List (Nat × Nat)} : ∀ {l : List (Nat × Nat)} {u : Nat × Blk}, u ∈ lendU m ms' L A l → ∃ y ∈ l, ∃ b, lookM ms' y.1 = some b ∧ u = (y.2, b.out (rnOut m L A) (verOf m y.2))
  | y :: r, u, h => by
    rw [lendU] at h
    split at h
    · rename_i b hb
      rcases List.mem_cons.1 h with rfl | h
      · exact ⟨y, List.mem_cons_self .., b, hb, rfl⟩
      · obtain ⟨z, h1, h2⟩ := mem_lendU h
        exact ⟨z, List.mem_cons_of_mem _ h1, h2⟩
    · obtain ⟨z, h1, h2⟩ := mem_lendU h
      exact ⟨z, List.mem_cons_of_mem _ h1, h2⟩
theorem lendU_mem {m : Mem} {ms' : List (Nat × Blk)} {L A : List (Nat × Nat)} : ∀ {l : List (Nat × Nat)} {y : Nat × Nat} {b : Blk}, y ∈ l → lookM ms' y.1 = some b → (y.2, b.out (rnOut m L A) (verOf m y.2)) ∈ lendU m ms' L A l
  | z :: r, y, b, h, hb => by
    rw [lendU]
    rcases List.mem_cons.1 h with rfl | h
    · rw [hb]; exact List.mem_cons_self ..
    · split
      · exact List.mem_cons_of_mem _ (lendU_mem h hb)
      · exact lendU_mem h hb
theorem mem_comeU {m : Mem} {ms' : List (Nat × Blk)} {L A : List (Nat × Nat)} : ∀ {l : List (Nat × Nat)} {u : Nat × Blk}, u ∈ comeU m ms' L A l → ∃ y ∈ l, ∃ b, lookM ms' y.1 = some b ∧ u = (y.2, b.out (rnOut m L A) (nv m y.2))
  | y :: r, u, h => by
    rw [comeU] at h
    split at h
    · rename_i b hb
      rcases List.mem_cons.1 h with rfl | h
      · exact ⟨y, List.mem_cons_self .., b, hb, rfl⟩
      · obtain ⟨z, h1, h2⟩ := mem_comeU h
        exact ⟨z, List.mem_cons_of_mem _ h1, h2⟩
    · obtain ⟨z, h1, h2⟩ := mem_comeU h
      exact ⟨z, List.mem_cons_of_mem _ h1, h2⟩
theorem comeU_mem {m : Mem} {ms' : List (Nat × Blk)} {L A : List (Nat × Nat)} : ∀ {l : List (Nat × Nat)} {y : Nat × Nat} {b : Blk}, y ∈ l → lookM ms' y.1 = some b → (y.2, b.out (rnOut m L A) (nv m y.2)) ∈ comeU m ms' L A l
  | z :: r, y, b, h, hb => by
    rw [comeU]
    rcases List.mem_cons.1 h with rfl | h
    · rw [hb]; exact List.mem_cons_self ..
    · split
      · exact List.mem_cons_of_mem _ (comeU_mem h hb)
      · exact comeU_mem h hb
theorem mem_goneU {m : Mem} : ∀ {l : List (Nat × Nat)} {u : Nat × Blk}, u ∈ goneU m l → ∃ y ∈ l, u = (y.2, ⟨nv m y.2, .row 1 [], 0⟩)
  | y :: r, u, h => by
    rcases List.mem_cons.1 h with rfl | h
    · exact ⟨y, List.mem_cons_self .., rfl⟩
    · obtain ⟨z, h1, h2⟩ := mem_goneU h
      exact ⟨z, List.mem_cons_of_mem _ h1, h2⟩
theorem goneU_mem {m : Mem} : ∀ {l : List (Nat × Nat)} {y : Nat × Nat}, y ∈ l → (y.2, (⟨nv m y.2, .row 1 [], 0⟩ : Blk)) ∈ goneU m l
  | z :: r, y, h => by
    rcases List.mem_cons.1 h with rfl | h
    · exact List.mem_cons_self ..
    · exact List.mem_cons_of_mem _ (goneU_mem h)
theorem appU_is {id : Nat} {b : Blk} : ∀ (us : Upds) (m : Mem), (∀ u ∈ us, u.1 = id → u.2 = b) → (∃ u ∈ us, u.1 = id) → appU m us id = some b
  | [], _, _, h => by obtain ⟨u, hu, _⟩ := h; cases hu
  | u :: us, m, h, hex => by
    rw [appU_cons]
    by_cases hk : ∃ v ∈ us, v.1 = id
    · exact appU_is us _ (fun v hv => h v (List.mem_cons_of_mem _ hv)) hk
    · rw [appU_other us _ id fun v hv e => hk ⟨v, hv, e⟩]
      obtain ⟨v, hv, e⟩ := hex
      rcases List.mem_cons.1 hv with rfl | hv
      · rw [e, upd_same, h v (List.mem_cons_self ..) e]
      · exact absurd ⟨v, hv, e⟩ hk
theorem memH_eq {m : Mem} {ms ms' : List (Nat × Blk)} {L K A : List (Nat × Nat)} (hids : okIds ms ms' L K A = true) : memH m ms' L K A = appU m (updsH m ms' L K A) := by
  unfold okIds at hids
  simp only [Bool.and_eq_true] at hids
  obtain ⟨q1, q2, q3, q4, ⟨⟨⟨⟨n1, n2⟩, n3⟩, n4⟩, n5⟩, n6⟩ := hids
  have hL : ∀ {c id}, (c, id) ∈ L → ∃ b, lookM ms' c = some b := fun {c id} h => by
    have := List.all_eq_true.1 q2 _ h
    dsimp only at this
    split at this
    · rename_i b' _ hb'
      exact ⟨_, hb'⟩
    · cases this
  have hA : ∀ {c id}, (c, id) ∈ A → ∃ b, lookM ms' c = some b := fun {c id} h => by
    have := List.all_eq_true.1 q4 _ h
    simp only [Bool.and_eq_true] at this
    exact isS_some this.2
  have noL : ∀ {id}, lkN (swL L) id = none → ∀ u ∈ lendU m ms' L A L, u.1 ≠ id := fun {id} h u hu e => by
    obtain ⟨y, hy, b, hb, rfl⟩ := mem_lendU hu
    obtain ⟨k, hk⟩ := lkN_some (sw_mem.1 (show (y.1, y.2) ∈ L from hy))
    have e : y.2 = id := e
    rw [e, h] at hk
    cases hk
  have noA : ∀ {id}, lkN (swL A) id = none → ∀ u ∈ comeU m ms' L A A, u.1 ≠ id := fun {id} h u hu e => by
    obtain ⟨y, hy, b, hb, rfl⟩ := mem_comeU hu
    obtain ⟨k, hk⟩ := lkN_some (sw_mem.1 (show (y.1, y.2) ∈ A from hy))
    have e : y.2 = id := e
    rw [e, h] at hk
    cases hk
  funext id
  unfold memH updsH
  rw [appU_append, appU_append]
  cases h1 : lkN (swL L) id with
  | some c =>
    have hc := sw_mem.2 (lkN_mem h1)
    obtain ⟨b, hb⟩ := hL hc
    dsimp only
    rw [hb]
    refine (appU_is _ _ (fun u hu e => ?_) ⟨_, lendU_mem hc hb, rfl⟩).symm
    obtain ⟨y, hy, b', hb', rfl⟩ := mem_lendU hu
    have e : y.2 = id := e
    subst e
    have := mem_lkN n4 (sw_mem.1 (show (y.1, y.2) ∈ L from hy))
    rw [h1] at this
    cases this
    rw [hb] at hb'
    cases hb'
    rfl
  | none =>
    rw [appU_other _ _ id (noL h1)]
    cases h2 : lkN (swL A) id with
    | some c =>
      have hc := sw_mem.2 (lkN_mem h2)
      obtain ⟨b, hb⟩ := hA hc
      dsimp only
      rw [hb]
      refine (appU_is _ _ (fun u hu e => ?_) ⟨_, comeU_mem hc hb, rfl⟩).symm
      obtain ⟨y, hy, b', hb', rfl⟩ := mem_comeU hu
      have e : y.2 = id := e
      subst e
      have := mem_lkN n6 (sw_mem.1 (show (y.1, y.2) ∈ A from hy))
      rw [h2] at this
      cases this
      rw [hb] at hb'
      cases hb'
      rfl
    | none =>
      rw [appU_other _ _ id (noA h2)]
      cases h3 : lkN (swL K) id with
      | some c =>
        have hc := sw_mem.2 (lkN_mem h3)
        refine (appU_is _ _ (fun u hu e => ?_) ⟨_, goneU_mem hc, rfl⟩).symm
        obtain ⟨y, hy, rfl⟩ := mem_goneU hu
        have e : y.2 = id := e
        subst e
        rfl
      | none =>
        refine (appU_other _ _ id fun u hu e => ?_).symm
        obtain ⟨y, hy, rfl⟩ := mem_goneU hu
        have e : y.2 = id := e
        obtain ⟨k, hk⟩ := lkN_some (sw_mem.1 (show (y.1, y.2) ∈ K from hy))
        rw [e, h3] at hk
        cases hk

section
variable {m m' : Mem} {ms ms' : List (Nat × Blk)} {L K A : List (Nat × Nat)}
def AgL (m m' : Mem) (l : List (Nat × Nat)) : Prop := ∀ y ∈ l, m y.2 = m' y.2
theorem verOf_ag {l : List (Nat × Nat)} (h : AgL m m' l) {y : Nat × Nat} (hy : y ∈ l) : verOf m y.2 = verOf m' y.2 := by unfold verOf; rw [h y hy]
theorem nv_ag {l : List (Nat × Nat)} (h : AgL m m' l) {y : Nat × Nat} (hy : y ∈ l) : nv m y.2 = nv m' y.2 := by unfold nv; rw [h y hy]
theorem rnIn_ag {l : List (Nat × Nat)} (h : AgL m m' l) : rnIn m l = rnIn m' l := by
  funext c
  unfold rnIn
  split
  · rename_i i hi
    rw [show verOf m i = verOf m' i from verOf_ag h (lkN_mem hi)]
  · rfl
theorem rnOut_ag (h1 : AgL m m' L) (h2 : AgL m m' A) : rnOut m L A = rnOut m' L A := by
  funext c
  unfold rnOut
  split
  · rename_i i hi
    rw [show verOf m i = verOf m' i from verOf_ag h1 (lkN_mem hi)]
  · split
    · rename_i i hi
      rw [show nv m i = nv m' i from nv_ag h2 (lkN_mem hi)]
    · rfl
theorem lendU_ag (hr : rnOut m L A = rnOut m' L A) : ∀ {l : List (Nat × Nat)}, AgL m m' l → lendU m ms' L A l = lendU m' ms' L A l
  | [], _ => rfl
  | y :: r, h => by rw [lendU, lendU, hr, verOf_ag h (List.mem_cons_self ..), lendU_ag hr (l := r) fun z hz => h z (List.mem_cons_of_mem _ hz)]
theorem comeU_ag (hr : rnOut m L A = rnOut m' L A) : ∀ {l : List (Nat × Nat)}, AgL m m' l → comeU m ms' L A l = comeU m' ms' L A l
  | [], _ => rfl
  | y :: r, h => by rw [comeU, comeU, hr, nv_ag h (List.mem_cons_self ..), comeU_ag hr (l := r) fun z hz => h z (List.mem_cons_of_mem _ hz)]
theorem goneU_ag : ∀ {l : List (Nat × Nat)}, AgL m m' l → goneU m l = goneU m' l
  | [], _ => rfl
  | y :: r, h => by rw [goneU, goneU, nv_ag h (List.mem_cons_self ..), goneU_ag (l := r) fun z hz => h z (List.mem_cons_of_mem _ hz)]
theorem inOk_ag {ρ : Rn} : ∀ {l : List (Nat × Nat)}, AgL m m' l → InOk m ms ρ l → InOk m' ms ρ l
  | [], _, _ => trivial
  | y :: r, h, k => by
    refine ⟨?_, inOk_ag (fun z hz => h z (List.mem_cons_of_mem _ hz)) k.2⟩
    have h0 := h y (List.mem_cons_self ..)
    rw [← h0, show verOf m' y.2 = verOf m y.2 by unfold verOf; rw [h0]]
    exact k.1
theorem argsH_ag {ρ : Rn} {dom : Nat → Bool} {ds as : List D} {us : Upds} (h : ArgsH m ρ dom ds as us) : (∀ d ∈ ds, Alk m m' d) → ArgsH m' ρ dom ds as us := by
  induction h with
  | nil => exact fun _ => .nil
  | lent h0 h1 h2 _ ih => exact fun hd => .lent h0 h1 h2 (ih fun d hm => hd d (List.mem_cons_of_mem _ hm))
  | data h _ ih => exact fun hd => .data (by rw [← dataD_congr (hd _ (List.mem_cons_self ..))]; exact h) (ih fun d hm => hd d (List.mem_cons_of_mem _ hm))
theorem capOk_ag : ∀ {l : List (Nat × Nat × Nat)}, (∀ c ∈ l, m c.1 = m' c.1) → capOk m l = true → capOk m' l = true
  | [], _, _ => rfl
  | c :: r, h, k => by
    rw [capOk, Bool.and_eq_true] at k
    rw [capOk, ← h c (List.mem_cons_self ..), Bool.and_eq_true]
    exact ⟨k.1, capOk_ag (fun c hc => h c (List.mem_cons_of_mem _ hc)) k.2⟩
end

/-- a call that lends, in a region that draws -/
theorem callHD {P : Program} (L K A : List (Nat × Nat)) {T : Nat → Option TI} {gs : List (Nat × List E)} {nt : Nat} {ops : Array Oper} {o : Oper} {rest : List Oper} {tm : Nat → D} {m : Mem} {fo : Operand} {f : Nat} {caps : List (Nat × Nat × Nat)} {args : Array Operand} {ts : Array TypeId} {as : List D} {r : D} {ms ms' : List (Nat × Blk)} {fps : List FP} {s'' : St} (hop : o.op = .call ⟨.value fo, args, ts⟩) (hgd : gdOf ops ⟨tm, m⟩ o = .free) (hfo : ((⟨tm, m⟩ : St).ev fo).strip = .one (.clo f caps)) (hcap : capOk m caps = true)
    (hfn : FnH P f gs ms as r ms') (has : ArgsH m (rnIn m (L ++ K)) (fun c => isS (lookM ms c)) ((args.toList.map fun x => ((⟨tm, m⟩ : St).ev x).strip) ++ capD caps) as []) (hn : needL ⟨tm, m⟩ (fo :: args.toList) = []) (hd : dstOk nt o.dst = true) {rd : List Nat} (hrd : (fIds (rdsL ⟨tm, m⟩ o.op.operands.toList) fun rd => some rd) = some rd) (hgl : gs.map (fun x => tm (1000000 + x.1)) = gs.map fun x => .one (.eptr x.2))
    (hids : okIds ms ms' L K A = true) (hin : InOk m ms (rnIn m (L ++ K)) (L ++ K)) (hsh : ShOk ms ms' L) (k : LexD P T nt ops rest ⟨putO tm o.dst (r.rn (rnOut m L A)), memH m ms' L K A⟩ fps s'') : LexD P T nt ops (o :: rest) ⟨tm, m⟩ ((dstId o.dst :: (idsH L K A ++ rd), idsH L K A) :: fps) s'' := by
  rw [fIds_eq] at hrd
  cases hrd
  have hfm : fo ∈ o.op.operands := by rw [hop]; simp [Op.operands, Call.operands]
  have hargs : ∀ x ∈ args.toList, x ∈ o.op.operands := fun x hx => by
    rw [hop]; simp only [Op.operands, Call.operands]; simp at hx ⊢; exact .inr hx
  have hput : ∀ (s : St) (d : D) (us : Upds), s.app o.dst d us = ⟨putO s.tm o.dst d, appU s.mem us⟩ := fun s d us => by
    unfold St.app putO
    cases o.dst <;> rfl
  have hU : ∀ m' : Mem, (∀ k, inB (idsH L K A) k = true → m k = m' k) → AgL m m' L ∧ AgL m m' A ∧ AgL m m' K := fun m' h => by
    refine ⟨fun y hy => h _ (inB_mem ?_), fun y hy => h _ (inB_mem ?_), fun y hy => h _ (inB_mem ?_)⟩
    all_goals
      unfold idsH
      refine List.mem_map.2 ⟨y, ?_, rfl⟩
      simp [hy]
  have inBapp : ∀ (a b : List Nat) (k : Nat), inB a k = true → inB (a ++ b) k = true := fun a b k => by
    induction a with
    | nil => intro h; cases h
    | cons x a ih =>
      intro h
      simp only [List.cons_append, inB, Bool.or_eq_true] at h ⊢
      exact h.imp id ih
  refine .cons (d := r.rn (rnOut m L A)) (us := updsH m ms' L K A) ⟨.gen fun s' hS hF X hX => ?_, fun x hx k hk => ?_, inB_mem (List.mem_cons_self ..), fun u hu => ?_⟩ ?_
  · have hF' : ∀ k, inB (idsH L K A) k = true → m k = s'.mem k := fun k hk => hF k (by
      simp only [inB, Bool.or_eq_true]
      exact .inr (inBapp _ _ k hk))
    obtain ⟨aL, aA, aK⟩ := hU s'.mem hF'
    have aLK : AgL m s'.mem (L ++ K) := fun y hy => (List.mem_append.1 hy).elim (aL y) (aK y)
    have hrn := rnIn_ag aLK
    have hro := rnOut_ag aL aA
    have hus : updsH m ms' L K A = updsH s'.mem ms' L K A := by
      unfold updsH
      rw [goneU_ag aK, comeU_ag hro aA, lendU_ag hro aL]
    have hfo' : (s'.ev fo).strip = .one (.clo f caps) := by rw [← hS.ev fo hfm]; exact hfo
    have hA0 : Alk m s'.mem (.one (.clo f caps)) := hfo ▸ alk_strip (hS.mem fo (rdO_call hop hfm))
    have hA0 : ∀ c ∈ caps, m c.1 = s'.mem c.1 := fun c hc => hA0 c.1 (by simp only [idsD, ids0]; exact List.mem_map_of_mem hc)
    rw [hput, hus, ← memH_eq hids, hro]
    have hev : (args.toList.map fun x => (s'.ev x).strip) = args.toList.map fun x => ((⟨tm, m⟩ : St).ev x).strip := List.map_congr_left fun x hx => by rw [hS.ev x (hargs x hx)]
    have := opT_callH (P := P) (X := X) (ops := ops) (s := s') (o := o) (us := []) (gs := gs) (r := r) (ms := ms) (ms' := ms') (as := as) L K A hop (by rw [← gd_congr hS]; exact hgd) hfo' (capOk_ag hA0 hcap) (by
      rw [hev]
      show ArgsH s'.mem (rnIn s'.mem (L ++ K)) _ _ _ _
      rw [← hrn]
      refine argsH_ag has fun d hd => ?_
      rcases List.mem_append.1 hd with hd | hd
      · obtain ⟨x, hx, rfl⟩ := List.mem_map.1 hd
        exact alk_strip (hS.mem x (rdO_call hop (hargs x hx)))
      · exact capD_alk hA0 d hd) (by
      rw [← needL_congr (s := ⟨tm, m⟩) fun x hx => by
        rcases List.mem_cons.1 hx with rfl | hx
        · exact hS.ev _ hfm
        · exact hS.ev x (hargs x hx), hn]
      exact fun p hp => nomatch hp) (fun x hx => (hS.glob x.1).symm.trans (glob_of hgl x hx)) hfn hids (by
      show InOk s'.mem ms (rnIn s'.mem (L ++ K)) (L ++ K)
      rw [← hrn]
      exact inOk_ag aLK hin) hsh (by rw [hX]; exact hd)
    exact this
  · refine inB_mem (List.mem_cons_of_mem _ (List.mem_append_right _ (rdsL_ok x (by simpa using rdO_sub hx) k hk)))
  · refine inB_mem ?_
    unfold updsH at hu
    unfold idsH
    rw [List.map_append, List.map_append]
    rcases List.mem_append.1 hu with hu | hu
    · obtain ⟨y, hy, rfl⟩ := mem_goneU hu
      exact List.mem_append_left _ (List.mem_map_of_mem (f := (·.2)) hy)
    rcases List.mem_append.1 hu with hu | hu
    · obtain ⟨y, hy, b, _, rfl⟩ := mem_comeU hu
      exact List.mem_append_right _ (List.mem_append_left _ (List.mem_map_of_mem (f := (·.2)) hy))
    · obtain ⟨y, hy, b, _, rfl⟩ := mem_lendU hu
      exact List.mem_append_right _ (List.mem_append_right _ (List.mem_map_of_mem (f := (·.2)) hy))
  · rw [hput]
    show LexD P T nt ops rest ⟨putO tm o.dst _, appU m (updsH m ms' L K A)⟩ fps s''
    rw [← memH_eq hids]
    exact k
end Go.Proofs.YtcdifgacoleckaaDoor.Ab
