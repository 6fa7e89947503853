/- What package variables hold, out of what a row lists. No condition. -/
import Derived.Test.YtcdifgacoleckaaDoorAbEnc
import Derived.LaidLaws
import Derived.Lib.LaidTab
import Derived.OpenShut
namespace Go.Proofs.YtcdifgacoleckaaDoor
open Go Go.RowKit Go.Proofs.YtcdifgacoleckaaDoor.Ab

mutual
/-- the cells that a plain datum stands for -/
def cellsD (P : Program) : Nat → TypeId → DataW Unit → Option (List Value)
  | 0, _, _ => none
  | f + 1, t, d => match P.underlying t, d with
    | some .bool, .lit (.bool b) => some [.bool b]
    | some (.int k), .lit (.int _ n) => some [.int k n]
    | some .string, .lit (.string l) => some [.string ⟨l.toArray⟩]
    | some (.struct fs), .agg ds => (cellsF P f fs.toList ds 0).filter fun vs => vs.length == P.cellsOf t
    | some (.array _ e), .agg ds => (cellsL P f e ds).filter fun vs => vs.length == P.cellsOf t
    | _, _ => none
def cellsF (P : Program) : Nat → List Field → List (DataW Unit) → Nat → Option (List Value)
  | 0, _, _, _ => none
  | _ + 1, [], [], _ => some []
  | f + 1, x :: fs, d :: ds, o => if x.offset = o then
      match cellsD P f x.type d with
      | some vs => if vs.length = P.cellsOf x.type then
          match cellsF P f fs ds (o + vs.length) with
          | some us => some (vs ++ us)
          | none => none
        else none
      | none => none
    else none
  | _, _, _, _ => none
def cellsL (P : Program) : Nat → TypeId → List (DataW Unit) → Option (List Value)
  | 0, _, _ => none
  | _ + 1, _, [] => some []
  | f + 1, e, d :: ds =>
    match cellsD P f e d, cellsL P f e ds with
    | some vs, some us => if vs.length = P.cellsOf e then some (vs ++ us) else none
    | _, _ => none
end
theorem app_take {cs us vs : List Value} {o : Nat} (h1 : (cs.drop o).take us.length = us) (h2 : (cs.drop (o + us.length)).take vs.length = vs) : (cs.drop o).take (us ++ vs).length = us ++ vs := by
  rw [List.length_append, List.take_add, h1, List.drop_drop, h2]
theorem cells_all (P : Program) (W : World) : ∀ (f : Nat),
    (∀ (k : Nat) (t : TypeId) (d : DataW Unit) (cs vs : List Value) (p : List MemPlace), cellsD P f t d = some vs → DataW.trod (fun _ => ()) P W 0 (fun _ => true) false k t cs = some (d, p) → cs = vs) ∧
    (∀ (k : Nat) (fs : List Field) (ds : List (DataW Unit)) (o : Nat) (cs us : List Value), cellsF P f fs ds o = some us → (∀ (i : Nat) x d, fs[i]? = some x → ds[i]? = some d → ∃ p, DataW.trod (fun _ => ()) P W 0 (fun _ => true) false k x.type ((cs.drop x.offset).take (P.cellsOf x.type)) = some (d, p)) → (cs.drop o).take us.length = us) ∧
    (∀ (k : Nat) (e : TypeId) (ds : List (DataW Unit)) (o : Nat) (cs us : List Value), cellsL P f e ds = some us → (∀ (i : Nat) d, ds[i]? = some d → ∃ p, DataW.trod (fun _ => ()) P W 0 (fun _ => true) false k e ((cs.drop (o + i * P.cellsOf e)).take (P.cellsOf e)) = some (d, p)) → (cs.drop o).take us.length = us) := by
  intro f
  induction f with
  | zero =>
    refine ⟨fun k t d cs vs p h => ?_, fun k fs ds o cs us h => ?_, fun k e ds o cs us h => ?_⟩
    · rw [cellsD] at h; cases h
    · rw [cellsF] at h; cases h
    · rw [cellsL] at h; cases h
  | succ f ih =>
    obtain ⟨ihD, ihF, ihL⟩ := ih
    refine ⟨fun k t d cs vs p h hr => ?_, fun k fs ds o cs us h hr => ?_, fun k e ds o cs us h hr => ?_⟩
    · unfold cellsD at h
      split at h
      · rename_i b hu
        obtain ⟨b', rfl, hx⟩ := DataW.trod_bool hu hr
        cases h
        cases hx
        rfl
      · rename_i k' n hu
        obtain ⟨n', rfl, hx, _⟩ := DataW.trod_int hu hr
        cases h
        cases hx
        rfl
      · rename_i l hu
        obtain ⟨s, rfl, hx, _⟩ := DataW.trod_string hu hr
        cases h
        cases hx
        rfl
      · rename_i fs ds hu
        obtain ⟨xs, m, rfl, hx, hl, hn, hi⟩ := DataW.trod_struct hu hr
        obtain ⟨hf, hlen⟩ := Option.filter_eq_some_iff.1 h
        have hd : ds = xs.map (·.1) := by cases hx; rfl
        have h1 := ihF m fs.toList ds 0 cs vs hf (fun i x d hx' hd' => by
          rw [hd, List.getElem?_map, Option.map_eq_some_iff] at hd'
          obtain ⟨y, hy, rfl⟩ := hd'
          exact ⟨y.2, (hi i x (by simpa using hx')).trans hy⟩)
        have hlen : vs.length = P.cellsOf t := by simpa using hlen
        rw [hlen, ← hl] at h1
        simpa using h1
      · rename_i n e ds hu
        obtain ⟨xs, m, rfl, hx, hl, hn, hi⟩ := DataW.trod_array hu hr
        obtain ⟨hf, hlen⟩ := Option.filter_eq_some_iff.1 h
        have hd : ds = xs.map (·.1) := by cases hx; rfl
        have h1 := ihL m e ds 0 cs vs hf (fun i d hd' => by
          rw [hd, List.getElem?_map, Option.map_eq_some_iff] at hd'
          obtain ⟨y, hy, rfl⟩ := hd'
          have hin := (List.getElem?_eq_some_iff.1 hy).1
          rw [Nat.zero_add]
          exact ⟨y.2, (hi i (by omega)).trans hy⟩)
        have hlen : vs.length = P.cellsOf t := by simpa using hlen
        rw [hlen, ← hl] at h1
        simpa using h1
      · cases h
    · cases fs with
      | nil =>
        cases ds with
        | nil => rw [cellsF] at h; cases h; simp
        | cons d ds => unfold cellsF at h; cases h
      | cons x fs =>
        cases ds with
        | nil => unfold cellsF at h; cases h
        | cons d ds =>
          unfold cellsF at h
          split at h
          · rename_i ho
            split at h
            · rename_i vs hv
              split at h
              · rename_i hlen
                split at h
                · rename_i us' hu
                  cases h
                  obtain ⟨p, hp⟩ := hr 0 x d rfl rfl
                  have h1 := ihD _ _ _ _ _ _ hv hp
                  rw [ho, ← hlen] at h1
                  have h2 := ihF k fs ds (o + vs.length) cs us' hu (fun i x' d' hx hd => hr (i + 1) x' d' (by simpa using hx) (by simpa using hd))
                  exact app_take h1 h2
                · cases h
              · cases h
            · cases h
          · cases h
    · cases ds with
      | nil => rw [cellsL] at h; cases h; simp
      | cons d ds =>
        rw [cellsL] at h
        split at h
        · rename_i vs us' hv hu
          split at h
          · rename_i hlen
            cases h
            obtain ⟨p, hp⟩ := hr 0 d rfl
            rw [Nat.zero_mul, Nat.add_zero] at hp
            have h1 := ihD _ _ _ _ _ _ hv hp
            rw [← hlen] at h1
            have h2 := ihL k e ds (o + vs.length) cs us' hu (fun i d' hd => by
              have := hr (i + 1) d' (by simpa using hd)
              rw [Nat.add_mul, Nat.one_mul, ← hlen] at this
              rw [show o + vs.length + i * P.cellsOf e = o + (i * vs.length + vs.length) by rw [hlen]; omega, ← hlen]
              exact this)
            exact app_take h1 h2
          · cases h
        · cases h
theorem laid_get {P : Program} {W : World} : ∀ {l : List (String × DataW Unit)} {ps : List MemPlace}, DataW.LaidVars P W l ps → ∀ x ∈ l,
    ∃ g t cs fuel p, P.globalNamed x.1 = some g ∧ (P.globals[g]?).map (·.type) = some t ∧ W.var? P x.1 = some cs ∧ DataW.trod (fun _ => ()) P W 0 (fun _ => true) false fuel t cs.toList = some (x.2, p)
  | [], _, _, x, hx => nomatch hx
  | (n, d) :: l, ps, h, x, hx => by
    obtain ⟨g, t, cs, fuel, p, q, h1, h2, h3, h4, h5, _⟩ := h
    rcases List.mem_cons.1 hx with rfl | hx
    · exact ⟨g, t, cs, fuel, p, h1, h2, h3, h4⟩
    · exact laid_get h5 x hx
def E.vv : E → Value
  | .v u => u
  | _ => undef
/-- what a listed variable holds, as data -/
theorem glob_reads {P : Program} {W : World} {l : List (String × DataW Unit)} (h : laidMet P l W) {x : String × DataW Unit} (hx : x ∈ l) {g : Nat} {t : TypeId} (hg : P.globalNamed x.1 = some g) (ht : (P.globals[g]?).map (·.type) = some t)
    {f : Nat} {es : List E} (hd : cellsD P f t x.2 = some (es.map E.vv)) (hv : (es.map E.vv).all (fun v => v.oneCell') = true) (he : es = (es.map E.vv).map .v) : RepD p0 (CI W anyI) W (.one (.eptr es)) (.pointer (some ⟨g, 0, none⟩)) := by
  obtain ⟨ps, h, _⟩ := h
  obtain ⟨g', t', cs, fuel, p, h1, h2, h3, h4⟩ := laid_get h _ hx
  obtain rfl := Option.some.inj (hg.symm.trans h1)
  obtain rfl := Option.some.inj (ht.symm.trans h2)
  generalize es.map E.vv = vs at hd hv he
  have hcs := (cells_all P W f).1 _ _ _ _ _ _ hd h4
  subst he
  refine ⟨g, 0, rfl, fun j e he => ?_⟩
  rw [List.getElem?_map, Option.map_eq_some_iff] at he
  obtain ⟨v, hv', rfl⟩ := he
  refine ⟨v, ⟨?_, trivial⟩, .v v (List.all_eq_true.1 hv v (List.mem_of_getElem? hv'))⟩
  rw [Nat.zero_add, World.var?_cell h1 h3 j, ← hv', ← hcs]
  simp
end Go.Proofs.YtcdifgacoleckaaDoor
