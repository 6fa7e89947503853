/- What an operation's effect hangs on: its operands, and the blocks that they name. No condition. -/
import Derived.Test.YtcjeeoimjkhijaaDoorAb20
namespace Go.Proofs.YtcjeeoimjkhijaaDoor.Ab
open Go Go.RowKit

def ids0 : D0 → List Nat
  | .ptr i _ _ => [i]
  | .rptr i _ _ _ => [i]
  | .own i _ => [i]
  | .bsl i _ _ _ _ => [i]
  | .clo _ cs => cs.map fun c => c.1
  | _ => []
def idsC : Cs → List Nat
  | .es _ => []
  | .ds xs => xs.flatMap ids0
def idsD : D → List Nat
  | .one x => ids0 x
  | .agg c => idsC c
  | .gd _ d => idsD d
  | _ => []

/-- two memories, alike at the blocks that d names -/
def Alk (m m' : Mem) (d : D) : Prop := ∀ i ∈ idsD d, m i = m' i

section
variable {T : Nat → Option TI} {m m' : Mem}
theorem alk_strip {d : D} (h : Alk m m' d) : Alk m m' d.strip := by
  cases d <;> exact h

theorem effConv_congr {s t : Nat} {x : D} (h : Alk m m' x) : effConv T m s t x = effConv T m' s t x := by
  unfold effConv
  split
  · rfl
  · rfl
  · split
    · rfl
    · rfl
    · rename_i id ver _ _; rw [h id (by simp [idsD, ids0])]
    · rename_i id ver _ _ _ _ _; rw [h id (by simp [idsD, ids0])]
    · rfl
  · rfl
theorem effLoad_congr {ti : TI} {x : D} (h : Alk m m' x) : effLoad ti m x = effLoad ti m' x := by
  unfold effLoad
  split
  · rfl
  · rename_i id ver off; rw [h id (by simp [idsD, ids0])]
  · rename_i id ver i j; rw [h id (by simp [idsD, ids0])]
  · rfl
theorem liveB_congr {x : D} (h : Alk m m' x) : liveB m x = liveB m' x := by
  unfold liveB
  split <;> first | rfl | (rename_i id _ _; rw [h id (by simp [idsD, ids0])]) | (rename_i id _ _ _; rw [h id (by simp [idsD, ids0])])
theorem effIndexA_congr {t : Nat} {x i : D} (h : Alk m m' x) : effIndexA T m t x i = effIndexA T m' t x i := by
  unfold effIndexA
  split
  · split
    · split
      · rfl
      · rename_i id ver _; rw [h id (by simp [idsD, ids0])]
      · rfl
    · rfl
    · rfl
  · rfl
theorem effLen_congr {t : Nat} {x : D} (h : Alk m m' x) : effLen T m t x = effLen T m' t x := by
  unfold effLen
  split
  · split
    · rfl
    · rfl
    · rename_i id ver; rw [h id (by simp [idsD, ids0])]
    · rename_i id ver _ _ _; rw [h id (by simp [idsD, ids0])]
    · rfl
  · rfl
  · rfl
theorem effQ_congr {op : Op} {ev : Ev} (h : ∀ x ∈ op.operands, Alk m m' (ev x)) : effQ T m op ev = effQ T m' op ev := by
  unfold effQ
  split <;> try rfl
  · exact effConv_congr (h _ (by simp [Op.operands]))
  · split
    · exact effLoad_congr (h _ (by simp [Op.operands]))
    · rfl
  · rename_i x
    have hx := h x (by simp [Op.operands])
    split
    · rename_i he; rw [he] at hx; rw [liveB_congr hx]
    · rfl
    · rfl
  · rw [liveB_congr (h _ (by simp [Op.operands]))]
  · rw [liveB_congr (h _ (by simp [Op.operands])), effIndexA_congr (h _ (by simp [Op.operands]))]
  · rename_i args ts
    split
    · rename_i x t ha ht
      exact effLen_congr (h x (by simp only [Op.operands, Call.operands]; simp [← Array.mem_toList_iff, ha]))
    · rfl

theorem frz_congr {x : D0} (h : ∀ i ∈ ids0 x, m i = m' i) : frz m x = frz m' x := by
  cases x with
  | own id ver => unfold frz; simp only; rw [h id (by simp [ids0])]
  | bsl id ver off z n => unfold frz; simp only; rw [h id (by simp [ids0])]
  | _ => rfl
theorem frzL_congr : ∀ {xs : List D0}, (∀ i ∈ xs.flatMap ids0, m i = m' i) → frzL m xs = frzL m' xs
  | [], _ => rfl
  | x :: r, h => by
    rw [frzL, frzL, frz_congr (fun i hi => h i (by simp [hi])), frzL_congr (fun i hi => h i (by
      rw [List.flatMap_cons]; exact List.mem_append_right _ hi))]
theorem frzC_congr {c : Cs} (h : ∀ i ∈ idsC c, m i = m' i) : frzC m c = frzC m' c := by
  cases c with
  | es xs => rfl
  | ds xs => exact frzL_congr h
theorem idsC_cs {d : D} {c : Cs} (h : d.cs? = some c) : ∀ i ∈ idsC c, i ∈ idsD d := by
  unfold D.cs? at h
  split at h
  · cases h; intro i hi; cases hi
  · cases h; intro i hi; simpa [idsC, idsD] using hi
  · cases h; intro i hi; exact hi
  · cases h
theorem effElems_congr {sz : Nat} : ∀ {k : Nat} {ds : List (Nat × D)}, (∀ q ∈ ds, Alk m m' q.2) → effElems m sz k ds = effElems m' sz k ds
  | k, [], _ => rfl
  | k, (i, d) :: r, h => by
    rw [effElems, effElems, effElems_congr (k := k + 1) (ds := r) (fun q hq => h q (by simp [hq]))]
    cases hc : d.cs? with
    | none => rfl
    | some c =>
      have hf : frzC m c = frzC m' c := frzC_congr fun j hj => h (i, d) (by simp) j (idsC_cs hc j hj)
      simp only [hf]
theorem srcOf_congr {k : K} {sz : Nat} {d : D} (h : Alk m m' d) : srcOf m k sz d = srcOf m' k sz d := by
  unfold srcOf
  split <;> try rfl
  · rename_i id ver; rw [h id (by simp [idsD, ids0])]
  · rename_i id ver _ _ _; rw [h id (by simp [idsD, ids0])]
theorem nver_congr {id : Nat} (h : m id = m' id) : nver m id = nver m' id := by unfold nver; rw [h]
theorem effAppend_congr {id t tx : Nat} {x y : D} (hx : Alk m m' x) (hy : Alk m m' y) (hid : m id = m' id) : effAppend T m id t tx x y = effAppend T m' id t tx x y := by
  unfold effAppend
  split
  · rw [srcOf_congr hy, nver_congr hid]
    split
    · split
      · rfl
      · rename_i id' ver; rw [hx id' (by simp [idsD, ids0])]
      · rfl
    · rfl
  · rfl
theorem effStore_congr {ti : TI} {a x : D} (ha : Alk m m' a) (hx : Alk m m' x) : effStore ti m a x = effStore ti m' a x := by
  unfold effStore
  cases hc : x.cs? with
  | none => rfl
  | some c =>
    have hf := frzC_congr (m := m) (m' := m') (c := c) fun i hi => hx i (idsC_cs hc i hi)
    cases a with
    | one z => cases z with
      | ptr id ver off => simp only; rw [ha id (by simp [idsD, ids0])]
      | rptr id ver i j => simp only; rw [ha id (by simp [idsD, ids0]), hf]
      | _ => rfl
    | _ => rfl
theorem effBuildSl_congr {id t len : Nat} {ds : List (Nat × D)} (h : ∀ q ∈ ds, Alk m m' q.2) (hid : m id = m' id) : effBuildSl T m id t len ds = effBuildSl T m' id t len ds := by
  unfold effBuildSl
  simp only [effElems_congr h, nver_congr hid]
theorem effBytes_congr {id s d : Nat} {x : D} (hid : m id = m' id) : effBytes T m id s d x = effBytes T m' id s d x := by
  unfold effBytes
  simp only [nver_congr hid]
theorem effSliceO_congr {t : Nat} {x : D} {lo hi : Option D} (h : Alk m m' x) : effSliceO T m t x lo hi = effSliceO T m' t x lo hi := by
  unfold effSliceO
  cases x with
  | one z => cases z with
    | own id ver =>
      have e : truncO T m t id ver lo hi = truncO T m' t id ver lo hi := by
        unfold truncO
        rw [h id (by simp [idsD, ids0])]
      simp only
      rw [frz_congr (fun i hi => h i (by simpa [idsD] using hi)), e]
    | ptr id ver off => simp only; rw [h id (by simp [idsD, ids0])]
    | _ => rfl
  | _ => rfl
theorem zeroCs_ids (vs : List Value) : idsC (zeroCs vs) = [] := by
  unfold zeroCs
  cases vs.any isSliceV with
  | false => rfl
  | true =>
    simp only [cond_true, idsC, List.flatMap_map]
    refine List.flatMap_eq_nil_iff.2 fun v _ => ?_
    unfold zD
    split <;> rfl
theorem effCopy_congr {t tx : Nat} {x y : D} (hx : Alk m m' x) (hy : Alk m m' y) : effCopy T m t tx x y = effCopy T m' t tx x y := by
  unfold effCopy
  split
  · rename_i id ver off z n _ _
    rw [hx id (by simp [idsD, ids0]), srcOf_congr hy]
  · rfl
theorem effMake_congr {id t : Nat} {l c : D} (hid : m id = m' id) : effMake T m id t l c = effMake T m' id t l c := by
  have hz : ∀ vs : List Value, frzC m (zeroCs vs) = frzC m' (zeroCs vs) := fun vs => frzC_congr (fun i hi => by rw [zeroCs_ids] at hi; cases hi)
  unfold effMake
  simp only [nver_congr hid, hz]
theorem effM_congr {id : Nat} {op : Op} {ev : Ev} (h : ∀ x ∈ op.operands, Alk m m' (ev x)) (hid : m id = m' id) : effM T m id op ev = effM T m' id op ev := by
  unfold effM
  split <;> try rfl
  · rw [nver_congr hid]
  · rw [nver_congr hid]
  · rename_i t len ps
    exact effBuildSl_congr (fun q hq => by
      obtain ⟨x, hx, rfl⟩ := List.mem_map.1 hq
      exact h x.2 (by simp only [Op.operands]; simpa using ⟨x.1, by simpa using hx⟩)) hid
  · split
    · exact effStore_congr (h _ (by simp [Op.operands])) (h _ (by simp [Op.operands]))
    · rfl
  · rename_i args ts
    split
    · rename_i x y t tx ha ht
      exact effAppend_congr (h x (by simp only [Op.operands, Call.operands]; simp [← Array.mem_toList_iff, ha])) (h y (by simp only [Op.operands, Call.operands]; simp [← Array.mem_toList_iff, ha])) hid
    · rfl
  · rename_i args ts
    split
    · rename_i x y t tx ha ht
      exact effCopy_congr (h x (by simp only [Op.operands, Call.operands]; simp [← Array.mem_toList_iff, ha])) (h y (by simp only [Op.operands, Call.operands]; simp [← Array.mem_toList_iff, ha]))
    · rfl
  · exact effBytes_congr hid
  · exact effSliceO_congr (h _ (by simp [Op.operands]))
  · exact effMake_congr hid
/-- the operands through which an operation looks at the memory: a move looks at none -/
def rdO : Op → List Operand
  | .move _ => []
  | op => op.operands.toList
theorem rdO_sub {op : Op} {x : Operand} (h : x ∈ rdO op) : x ∈ op.operands := by
  unfold rdO at h
  split at h
  · cases h
  · simpa using h
theorem rdO_call {op : Op} {c : Call} {x : Operand} (hc : op = .call c) (h : x ∈ op.operands) : x ∈ rdO op := by
  subst hc
  show x ∈ (Op.call c).operands.toList
  simpa using h
theorem eff_congr {id : Nat} {op : Op} {ev : Ev} (h : ∀ x ∈ rdO op, Alk m m' (ev x)) (hid : m id = m' id) : eff T m id op ev = eff T m' id op ev := by
  by_cases hm : ∃ x, op = .move x
  · obtain ⟨x, rfl⟩ := hm
    unfold eff effQ effM
    rfl
  · have h : ∀ x ∈ op.operands, Alk m m' (ev x) := fun x hx => h x (by
      unfold rdO
      split
      · exact absurd ⟨_, rfl⟩ hm
      · simpa using hx)
    unfold eff
    rw [effQ_congr h, effM_congr h hid]

/-- two states, alike where operation o looks -/
structure Same (ops : Array Oper) (o : Oper) (s s' : St) : Prop where
  tm : ∀ t ∈ o.looksAt ops, s.tm t = s'.tm t
  mem : ∀ x ∈ rdO o.op, Alk s.mem s'.mem (s.ev x)
  dst : s.mem (dstId o.dst) = s'.mem (dstId o.dst)
  glob : ∀ g, s.tm (1000000 + g) = s'.tm (1000000 + g)

theorem Same.ev {ops : Array Oper} {o : Oper} {s s' : St} (h : Same ops o s s') : ∀ x ∈ o.op.operands, s.ev x = s'.ev x := fun x hx => by
  cases x with
  | tmp t =>
    have := h.tm t (List.mem_append_left _ (List.mem_filterMap.2 ⟨.tmp t, by simpa using hx, rfl⟩))
    show (bif Nat.blt t 900000 then s.tm t else .any) = bif Nat.blt t 900000 then s'.tm t else .any
    rw [this]
  | global g => exact h.glob g
  | _ => rfl

theorem effEv_congr {m : Mem} {id : Nat} {op : Op} {ev ev' : Ev} (h : ∀ x ∈ op.operands, ev x = ev' x) : eff T m id op ev = eff T m id op ev' := by
  have hq : effQ T m op ev = effQ T m op ev' := by
    cases op <;> simp only [effQ] <;> simp only [Op.operands] at h
    all_goals (try rfl)
    case slice t x lo hi mx =>
      cases mx with
      | none => cases lo <;> cases hi <;> simp_all [effQ]
      | some _ => cases lo <;> cases hi <;> simp_all [effQ]
    case call c =>
      obtain ⟨cal, args, ts⟩ := c
      cases cal with
      | builtin b =>
        have ha : ∀ x ∈ args.toList, ev x = ev' x := fun x hx => h x (by simp only [Call.operands]; simpa using hx)
        cases b <;> simp only [effQ] <;> (try rfl) <;> (generalize args.toList = l at ha; generalize ts.toList = l2; clear h; rcases l with _ | ⟨x, _ | ⟨y, _ | ⟨z, l⟩⟩⟩ <;> rcases l2 with _ | ⟨t, _ | ⟨u, _ | ⟨v, l2⟩⟩⟩ <;> simp_all)
      | _ => rfl
    all_goals (simp_all; done)
  have hm : effM T m id op ev = effM T m id op ev' := by
    have pairs : ∀ ps : Array (Nat × Operand), (∀ q ∈ ps.toList, ev q.2 = ev' q.2) → (ps.toList.map fun q => (q.1, ev q.2)) = ps.toList.map fun q => (q.1, ev' q.2) := fun ps hp => List.map_congr_left fun q hq => by rw [hp q hq]
    cases op <;> simp only [effM] <;> simp only [Op.operands] at h
    all_goals (try rfl)
    case build t ps => rw [pairs ps fun q hq => h q.2 (by simpa using ⟨q.1, by simpa using hq⟩)]
    case buildSlice t n ps => rw [pairs ps fun q hq => h q.2 (by simpa using ⟨q.1, by simpa using hq⟩)]
    case slice t x lo hi mx =>
      cases mx with
      | none => cases lo <;> cases hi <;> simp_all [effM]
      | some _ => rfl
    case call c =>
      obtain ⟨cal, args, ts⟩ := c
      cases cal with
      | builtin b =>
        have ha : ∀ x ∈ args.toList, ev x = ev' x := fun x hx => h x (by simp only [Call.operands]; simpa using hx)
        cases b <;> simp only [effM] <;> (try rfl) <;> (generalize args.toList = l at ha; generalize ts.toList = l2; clear h; rcases l with _ | ⟨x, _ | ⟨y, _ | ⟨z, l⟩⟩⟩ <;> rcases l2 with _ | ⟨t, _ | ⟨u, _ | ⟨v, l2⟩⟩⟩ <;> simp_all)
      | _ => rfl
    case makeFunc fn first caps =>
      cases fn with
      | func f =>
        have : caps.toList.map ev = caps.toList.map ev' := List.map_congr_left fun x hx => h x (by
          have := Array.mem_toList_iff.1 hx
          simp [this])
        simp only [effM]
        rw [this]
      | _ => rfl
    all_goals (simp_all; done)
  unfold eff
  rw [hq, hm]
end
end Go.Proofs.YtcjeeoimjkhijaaDoor.Ab
