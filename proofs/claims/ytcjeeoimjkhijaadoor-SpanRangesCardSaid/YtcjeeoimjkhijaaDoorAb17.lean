/- How a function is entered and left; weaker states. No condition. -/
import Derived.Test.YtcjeeoimjkhijaaDoorAb16
namespace Go.Proofs.YtcjeeoimjkhijaaDoor.Ab
open Go Go.RowKit

/-- what the result variables hold -/
def resL (T : Nat → Option TI) (s : St) : List ResultVar → Option (Prop × List D)
  | [] => some (True, [])
  | .tmp t :: r =>
    match resL T s r with
    | some (φ, ds) =>
      match s.tm t with
      | .gd q d => some (q ∧ φ, d :: ds)
      | d => some (φ, d :: ds)
    | none => none
  | .cell t ty :: r =>
    match T ty, resL T s r with
    | some ti, some (φ, ds) =>
      match effLoad ti s.mem (s.tm t) with
      | some (φ', d) => some (φ' ∧ φ, d :: ds)
      | none => none
    | _, _ => none
def toTup : D → Bool × Cs
  | .one (.e x) => (false, .es [x])
  | .agg c => (true, c)
  | _ => (false, .es [])
def tupOk : D → Bool
  | .one (.e _) => true
  | .agg _ => true
  | _ => false
def joinR : List D → D
  | [d] => d
  | ds => .tup (ds.map toTup)

def resOk : ResultVar → Bool
  | .tmp t => Nat.blt t 900000
  | .cell a _ => Nat.blt a 900000
/-- the function's answer, as data -/
def resE (T : Nat → Option TI) (s : St) (rs : List ResultVar) : Option (Prop × D) :=
  match (bif rs.all resOk then resL T s rs else none) with
  | some (φ, ds) =>
    match dataL s.mem ds with
    | some (xs, _) => bif xs.all tupOk then some (φ, joinR xs) else none
    | none => none
  | none => none

/-- a function's body ends well: its results are r -/
def Ends (T : Nat → Option TI) (rs : List ResultVar) (r : D) (e : Exit) (s : St) : Prop :=
  (e = .normal ∨ e = .ret) ∧ ∃ φ r', resE T s rs = some (φ, r') ∧ φ ∧ r' = r

def getArg : List D → Nat → D
  | [], _ => .any
  | d :: _, 0 => d
  | _ :: r, n + 1 => getArg r n
def St.start (args : List D) : St := ⟨getArg args, fun _ => none⟩

def resF (tmps : Array Value) (x : ResultVar) : Sem Value :=
  match x with
  | .tmp t => pure (tmps.getD t undef)
  | .cell a t => do loadVar t (← asAddr (tmps.getD a undef))

section
variable {P : Program} {T : Nat → Option TI} {X : Ctx}

theorem getArg_get : ∀ (l : List D) (i : Nat), getArg l i = (l[i]?).getD .any
  | [], i => by simp [getArg]
  | d :: r, 0 => rfl
  | d :: r, n + 1 => by rw [getArg, getArg_get r n]; simp

theorem resL_run (hT : TOk P T) {s : St} {a : Act} {w : World} {μ : Nat → Option Nat} (hM : RM X ⟨s.mem, μ⟩ w) (hr : ∀ t, RepD ⟨s.mem, μ⟩ (CW X ⟨s.mem, μ⟩ w) w (s.tm t) (slotV X.xg a.tmps t)) : ∀ {rs : List ResultVar} {φ : Prop} {ds : List D}, (∀ x ∈ rs, resOk x = true) → resL T s rs = some (φ, ds) → φ →
    ∃ vs : List Value, (rs.mapM (resF a.tmps)).run P w = .ok vs w ∧ ds.length = vs.length ∧ ∀ (i : Nat) d v, ds[i]? = some d → vs[i]? = some v → RepD ⟨s.mem, μ⟩ (CW X ⟨s.mem, μ⟩ w) w d v
  | [], φ, ds, _, h, _ => by cases h; exact ⟨[], rfl, rfl, fun i d v h => nomatch h⟩
  | .tmp t :: r, φ, ds, hok, h, hφ => by
    have hlt : t < 900000 := Nat.blt_eq.mp (hok _ (List.mem_cons_self ..))
    have hok' := fun x hx => hok x (List.mem_cons_of_mem _ hx)
    rw [resL] at h
    split at h
    · rename_i φ' ds' h1
      have key : ∃ d, ds = d :: ds' ∧ φ' ∧ RepD ⟨s.mem, μ⟩ (CW X ⟨s.mem, μ⟩ w) w d (a.tmps.getD t undef) := by
        have hrt := hr t
        rw [slotV_lt hlt] at hrt
        split at h
        · rename_i q d he; cases h; rw [he] at hrt; exact ⟨d, rfl, hφ.2, hrt.1 hφ.1⟩
        · cases h; exact ⟨_, rfl, hφ, hrt⟩
      obtain ⟨d0, rfl, hφ', hd0⟩ := key
      obtain ⟨vs, k1, k2, k3⟩ := resL_run hT hM hr hok' h1 hφ'
      refine ⟨a.tmps.getD t undef :: vs, by rw [List.mapM_cons]; simp only [resF, Sem.run_bind, Sem.run_pure, Result.andThen_ok, k1], by simp [k2], fun i d v hd hv => ?_⟩
      cases i with
      | zero => simp only [List.getElem?_cons_zero, Option.some.injEq] at hd hv; subst hd; subst hv; exact hd0
      | succ i => exact k3 i d v (by simpa using hd) (by simpa using hv)
    · cases h
  | .cell t ty :: r, φ, ds, hok, h, hφ => by
    have hlt : t < 900000 := Nat.blt_eq.mp (hok _ (List.mem_cons_self ..))
    have hok' := fun x hx => hok x (List.mem_cons_of_mem _ hx)
    rw [resL] at h
    split at h
    · rename_i ti φ' ds' hti h1
      split at h
      · rename_i φ'' d h2
        cases h
        obtain ⟨vs, k1, k2, k3⟩ := resL_run hT hM hr hok' h1 hφ.2
        obtain ⟨v, e1, e2⟩ := loadE_goes hT hM hti (slotV_lt hlt ▸ hr t) h2 hφ.1
        have hrun : (resF a.tmps (.cell t ty)).run P w = .ok v w := by
          show (do loadVar ty (← asAddr (a.tmps.getD t undef)) : Sem Value).run P w = .ok v w
          have hp : ∃ ad, a.tmps.getD t undef = .pointer (some ad) := by
            generalize a.tmps.getD t undef = u at e1
            unfold Instr.loadAt Instr.sureAddr at e1
            cases u with
            | pointer ad => cases ad with
              | none => simp at e1
              | some ad => exact ⟨ad, rfl⟩
            | _ => simp at e1
          obtain ⟨ad, hp⟩ := hp
          rw [hp] at e1 ⊢
          simpa [Instr.loadAt, Instr.sureAddr, asAddr] using e1
        refine ⟨v :: vs, by rw [List.mapM_cons]; simp only [Sem.run_bind, hrun, Sem.run_pure, Result.andThen_ok, k1], by simp [k2], fun i d v hd hv => ?_⟩
        cases i with
        | zero => simp only [List.getElem?_cons_zero, Option.some.injEq] at hd hv; subst hd; subst hv; exact e2
        | succ i => exact k3 i d v (by simpa using hd) (by simpa using hv)
      · cases h
    · cases h

theorem toTup_rep {C : Nat → Nat → Value → Prop} {w : World} {d : D} {v : Value} (h : RepD p0 C w d v) (hd : tupOk d = true) : RepT p0 C w (toTup d) v := by
  unfold tupOk at hd
  split at hd
  · rename_i x
    refine ⟨rfl, fun i y u hy hu => ?_⟩
    cases i with
    | zero => simp [Cs.d0] at hy hu; subst hy; subst hu; exact h
    | succ i => simp [Cs.d0] at hy
  · exact h
  · cases hd

theorem joinR_rep {C : Nat → Nat → Value → Prop} {w : World} {ds : List D} {vs : List Value} (h : RepAs C w ds vs) (hd : ds.all tupOk = true) : RepD p0 C w (joinR ds) (if h : vs.toArray.size = 1 then vs.toArray[0] else .tuple vs.toArray) := by
  by_cases h1 : vs.length = 1
  · obtain ⟨v, rfl⟩ := List.length_eq_one_iff.1 h1
    obtain ⟨d, rfl⟩ := List.length_eq_one_iff.1 (h.1.trans h1)
    exact h.2 0 d v rfl rfl
  · rw [dif_neg (by simpa using h1)]
    have hj : joinR ds = .tup (ds.map toTup) := by
      unfold joinR
      split
      · rename_i d
        exact absurd (by rw [← h.1]; rfl) h1
      · rfl
    rw [hj]
    refine ⟨vs, rfl, by simp [h.1], fun i x u hx hu => ?_⟩
    simp only [List.getElem?_map, Option.map_eq_some_iff] at hx
    obtain ⟨d, hd', rfl⟩ := hx
    exact toTup_rep (h.2 i d u hd' hu) (List.all_eq_true.1 hd d (List.mem_of_getElem? hd'))

theorem RepD.p0_own {C C' : Nat → Nat → Value → Prop} {w : World} {d : D} {v : Value} (h : ∀ b o u, C b o u → C' b o u) (hv : RepD p0 C w d v) : RepD p0 C' w d v := hv.kept (p0_kept h)

/-- a function by its body -/
theorem fn_intro (hT : TOk P T) {f : Nat} {fn : Func} {c : Code} (hf : P.funcs[f]? = some fn) (hb : fn.body = some c) (hname : (fn.name == "runtime.NumGoroutine") = false) {args : List D} {r : D} (hn : args.length ≤ fn.ntmps)
    (h : ∀ X : Ctx, X.nt = fn.ntmps → Tr P X c (St.start args) (Ends T fn.results.toList r)) (hbig : Nat.ble fn.ntmps 900000 = true := by rfl) : FnD P f args r := by
  refine ⟨⟨fn, c, hf, hb, hname⟩, fun w vs I hargs => ?_⟩
  have hlen : args.length = vs.size := by simpa using hargs.1
  let X : Ctx := ⟨w, I, fn.ntmps, Nat.le_of_ble_eq_true hbig, fun _ => False, fun _ => 0⟩
  refine calls_of_wp hf hb (wp_mono (h X rfl _ w ⟨fun _ => none, ⟨Bel.refl _, fun id blk hb => nomatch hb⟩, by show (vs ++ Array.replicate (fn.ntmps - vs.size) undef).size = fn.ntmps; simp; omega, rfl, fun t => ?_⟩) fun e a w' ⟨s', hE, hR⟩ => ?_)
  · show RepD p0 _ w (getArg args t) _
    rw [getArg_get]
    cases hd : args[t]? with
    | none => trivial
    | some d =>
      have ht : t < vs.size := by rw [← hlen]; exact (List.getElem?_eq_some_iff.1 hd).1
      have hv : slotV X.xg (vs ++ Array.replicate (fn.ntmps - vs.size) undef) t = vs[t] := by
        have := Nat.le_of_ble_eq_true hbig
        rw [slotV_lt (by omega), Array.getD_eq_getD_getElem?, Array.getElem?_append_left ht, Array.getElem?_eq_getElem ht]
        rfl
      simp only [Option.getD_some]
      rw [hv]
      refine (hargs.2 t d vs[t] hd (by simp [ht])).p0_own fun b o u h => ⟨h.1, fun _ => h.2, fun _ id blk hb => nomatch hb⟩
  · obtain ⟨hend, φ, r', hres, hφ, rfl⟩ := hE
    obtain ⟨μ, hM, hsz, hdf, hr⟩ := hR
    unfold resE at hres
    split at hres
    · rename_i φ' ds h1
      split at hres
      · rename_i xs us h2
        cases hall : xs.all tupOk with
        | false => simp [hall] at hres
        | true =>
          simp only [hall, cond_true, Option.some.injEq, Prod.mk.injEq] at hres
          obtain ⟨rfl, rfl⟩ := hres
          cases hro : fn.results.toList.all resOk with
          | false => rw [hro] at h1; cases h1
          | true =>
          rw [hro] at h1
          obtain ⟨us', k1, k2, k3⟩ := resL_run hT hM hr (fun x hx => List.all_eq_true.1 hro x hx) h1 hφ
          obtain ⟨r1, r2, r3, r4⟩ := RM.pubs us s'.mem hM (dataL_ok h2)
          have hd := dataL_rep (vs := us') r1 ⟨k2, fun i d v hd hv => (k3 i d v hd hv).kept r2⟩ h2 r3
          have hj := joinR_rep hd hall
          have hrun : (results fn a.tmps).run P w' = .ok (if h : us'.toArray.size = 1 then us'.toArray[0] else .tuple us'.toArray) w' := by
            have he : results fn a.tmps = (do let vs ← fn.results.mapM (resF a.tmps); pure (if h : vs.size = 1 then vs[0] else .tuple vs) : Sem Value) := rfl
            rw [he, Sem.run_bind, Array.mapM_eq_mapM_toList, Sem.run_map, k1]
            rfl
          have hfin : bodyPost P fn (fun e w'' => ∃ v, e = .returned v ∧ Below w.heap.size w w'' ∧ RepD p0 (CI' w w'' I) w'' (joinR xs) v) .normal a w' :=
            ⟨hdf, _, hrun, _, rfl, r1.bel.toBelow (fun _ h => h), hj.p0_own fun b o u hc => ⟨hc.1, (Nat.lt_or_ge b w.heap.size).imp (fun hlt => hc.2.1 fun h => h.elim (fun h => Nat.not_lt.2 h hlt) id) id⟩⟩
          rcases hend with rfl | rfl
          · exact hfin
          · exact hfin
      · cases hres
    · cases hres
end
end Go.Proofs.YtcjeeoimjkhijaaDoor.Ab
