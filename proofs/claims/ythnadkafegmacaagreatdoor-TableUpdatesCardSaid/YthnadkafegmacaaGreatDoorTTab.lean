/- table.Check, its keys, and the document's TableFault. No condition. -/
import Derived.Test.YthnadkafegmacaaGreatDoorTKinA
import Derived.Test.YthnadkafegmacaaGreatDoorAbZ
namespace Go.Proofs.YthnadkafegmacaaGreatDoor
open Go Go.RowKit Go.Proofs.YthnadkafegmacaaGreatDoor.Ab
set_option linter.unusedSimpArgs false
set_option linter.unusedVariables false

structure Cel where
  f : Bool
  r : List Val
def cel0 : Cel := ⟨false, []⟩
def eCel (c : Cel) : List E := [eBl c.f, eRow c.r]
def eDr (d : List Cel) : List E := (d.map eCel).flatten
theorem flatGet {α β : Type} (f : α → List β) (z : Nat) (a0 : α) (hf : ∀ a, (f a).length = z) : ∀ (l : List α) (i : Nat), i < l.length → ((l.map f).flatten.drop (i * z)).take z = f (l.getD i a0)
  | a :: l, 0, _ => by
    rw [List.map_cons, List.flatten_cons, Nat.zero_mul, List.drop_zero, ← hf a, List.take_left']
    · rfl
    · rfl
  | a :: l, i + 1, h => by
    rw [List.map_cons, List.flatten_cons, show (i + 1) * z = (f a).length + i * z by rw [hf a, Nat.add_mul, Nat.one_mul, Nat.add_comm], ← List.drop_drop, List.drop_left']
    · rw [flatGet f z a0 hf l i (by simpa using h)]
      rfl
    · rfl
theorem flatLen {α β : Type} (f : α → List β) (z : Nat) (hf : ∀ a, (f a).length = z) : ∀ l : List α, (l.map f).flatten.length = l.length * z
  | [] => by simp
  | a :: l => by rw [List.map_cons, List.flatten_cons, List.length_append, hf a, flatLen f z hf l, List.length_cons, Nat.add_mul, Nat.one_mul, Nat.add_comm]
theorem drLen (d : List Cel) (h : d.length = 4) : (eDr d).length = 8 := by unfold eDr; rw [flatLen eCel 2 (fun _ => rfl), h]
theorem chunksEq {α : Type} (f : α → List E) (z : Nat) (a0 : α) (hf : ∀ a, (f a).length = z) (l : List α) (n : Nat) (h : n ≤ l.length) : chunksE z n (l.map f).flatten = (l.take n).map f := by
  apply List.ext_getElem
  · simp [chunksE]; omega
  · intro i h1 h2
    have h1 : i < n := by simpa [chunksE] using h1
    have := flatGet f z a0 hf l i (by omega)
    simp only [chunksE, List.getElem_map, List.getElem_range, List.getElem_take, this]
    rw [List.getD_eq_getElem?_getD, List.getElem?_eq_getElem (by omega)]
    rfl
theorem celsGet (l : List Cel) (i : Nat) (h : i < l.length) : (l.map eCel).getD i [] = eCel (l.getD i cel0) := by
  rw [List.getD_eq_getElem?_getD, List.getElem?_map, List.getElem?_eq_getElem h, List.getD_eq_getElem?_getD, List.getElem?_eq_getElem h]
  rfl
theorem celTake (c : Cel) : List.take 2 (List.drop 0 (eCel c)) = eCel c := rfl
def key (c : Cel) : Int := (c.r.getD 0 val0).i
def hasK (p : List Cel) (k : Int) : Bool := p.any fun b => b.f && decide (key b = k)
def kF : List Cel → List Cel → Int
  | _, [] => 0
  | p, c :: r => if c.f = true ∧ hasK p (key c) = true then 8 else kF (p ++ [c]) r
def kOk (c : Cel) : Prop := c.f = true → c.r ≠ [] ∧ (c.r.getD 0 val0).k = 2 ∧ (c.r.getD 0 val0).b = 0 ∧ (c.r.getD 0 val0).t = []
set_option maxRecDepth 10000 in
set_option maxHeartbeats 2000000 in
theorem keys_fn (d : List Cel) (h4 : d.length = 4) (hk : ∀ c ∈ d, kOk c) : FnD Tryz.prog 42 [.agg (.es (eDr d))] (.one (.e (eI (kF [] d)))) := by
  refine fn_intro (T := tab) tOk Tryz.func42 rfl (by kernel_rfl) (by simp [Tryz.ntmps42]) ?_
  intro X hX
  have hnt : X.nt = 38 := hX
  clear hX
  have h8 := drLen d h4
  have f8 : 0 + 8 ≤ (Cs.es (eDr d)).len := by show 0 + 8 ≤ (eDr d).length; omega
  repeat' first | refine zzs ?_ | refine zzr hnt rfl ?_ ?_ | refine zzd hnt rfl ?_ ?_ | refine zzb ?_ | refine zzk ?_
  · exact zzt
  repeat' first | refine zzs ?_ | refine zzr hnt rfl ?_ ?_ | refine zzd hnt rfl ?_ ?_ | refine zzb ?_ | refine zzk ?_
  · exact zzt
  rw [show List.take 8 (List.drop 0 (eDr d)) = eDr d from List.take_of_length_le (Nat.le_of_eq h8)]
  refine tr_le (le_pub 1 rfl) ?_
  repeat' first | refine zzs ?_ | refine zzb ?_ | refine zzk ?_
  refine tr_loop (σ := Nat) (fun i => St.of [(1, .one (.ptr 1 0 0)), (7, .agg (.es (eDr d))), (8, .one (.e (eI (i : Int))))] [(1, ⟨0, .box (.es (eDr d)), (Body.box (.es (eDr d))).cells.length⟩)]) (fun i => kF (d.take i) (d.drop i) = kF [] d ∧ i ≤ d.length) (fun i => d.length - i) (0) (le_of (ad := []) ⟨zzl, zzl, zzl, trivial⟩ (memOk_box rfl rfl rfl trivial)) ⟨rfl, Nat.zero_le _⟩ ?_
  rintro i ⟨hi, il⟩
  repeat' first | refine zzs ?_ | refine zzr hnt rfl ?_ ?_ | refine zzd hnt rfl ?_ ?_ | refine zzb ?_ | refine zzk ?_
  · exact zzt
  repeat' first | refine zzs ?_ | refine zzb ?_ | refine zzk ?_
  refine tr_cond rfl (fun hc => ?_) (fun hc => ?_)
  · simp only [zz1, zz2, zz3, zz4, zz5, zz6, zz7, zz8] at hc
    have hlt : i < d.length := by omega
    have hts := take_succ (d := cel0) hlt
    rw [drop_getD (d := cel0) hlt, kF, ← hts] at hi
    have hg : List.take 2 (List.drop ((i : Int).toNat * 2) (eDr d)) = eCel (d.getD i cel0) := flatGet eCel 2 cel0 (fun _ => rfl) d i hlt
    have e2 : (Cs.es (List.take 2 (List.drop ((i : Int).toNat * 2) (eDr d)))).len = 2 := congrArg List.length hg
    have l8 : i * 2 + 2 ≤ (Cs.es (eDr d)).len := by show _ ≤ (eDr d).length; omega
    repeat' first | refine zzs ?_ | refine zzb ?_ | refine zzk ?_
    first | refine zzr hnt rfl ?_ ?_ | refine zzd hnt rfl ?_ ?_
    · exact zza
    rw [hg]
    have hcm : d.getD i cel0 ∈ d := by
      rw [List.getD_eq_getElem?_getD, List.getElem?_eq_getElem hlt]
      exact List.getElem_mem hlt
    have hck := hk _ hcm
    generalize d.getD i cel0 = c at *
    clear hcm
    repeat' first | refine zzs ?_ | refine zzb ?_ | refine zzk ?_
    first | refine zzr hnt rfl ?_ ?_ | refine zzd hnt rfl ?_ ?_
    · exact zza
    refine tr_le (le_frzB 13 rfl rfl) ?_
    rw [show ((i : Int) - 0).toNat = i by omega, show chunksE 2 i (List.drop (0 + Int.toNat 0 * 2) (eDr d)) = (d.take i).map eCel from chunksEq eCel 2 cel0 (fun _ => rfl) d i il]
    have hpm : ∀ b ∈ d.take i, kOk b := fun b hb => hk b (List.mem_of_mem_take hb)
    have hpl : (d.take i).length = i := by rw [List.length_take]; omega
    have hml : ((d.take i).map eCel).length = i := by rw [List.length_map, hpl]
    generalize d.take i = p at *
    repeat' first | refine zzs ?_ | refine zzb ?_ | refine zzk ?_
    refine tr_loop (σ := Nat) (fun j => St.of [(1, .one (.ptr 1 0 0)), (4, .one (.ptr 4 0 0)), (7, .agg (.es (eDr d))), (8, .one (.e (eI (i : Int)))), (13, .one (.e (.sl (p.map eCel)))), (14, .one (.e (eI (i : Int)))), (15, .one (.e (eI (j : Int))))] [(1, ⟨0, .box (.es (eDr d)), (Body.box (.es (eDr d))).cells.length⟩), (4, ⟨0, .box (.es (eCel c)), 0⟩)]) (fun j => (c.f = true ∧ hasK (p.drop j) (key c) = true ↔ c.f = true ∧ hasK p (key c) = true) ∧ j ≤ i) (fun j => i - j) (0) (le_of (ad := []) ⟨zzl, zzl, zzl, zzl, zzl, zzl, zzl, trivial⟩ (memOk_box rfl rfl rfl (memOk_box rfl rfl rfl trivial))) ⟨Iff.rfl, Nat.zero_le _⟩ ?_
    rintro j ⟨hj, jl⟩
    repeat' first | refine zzs ?_ | refine zzr hnt rfl ?_ ?_ | refine zzd hnt rfl ?_ ?_ | refine zzb ?_ | refine zzk ?_
    · exact zzt
    repeat' first | refine zzs ?_ | refine zzb ?_ | refine zzk ?_
    refine tr_cond rfl (fun hc => ?_) (fun hc => ?_)
    · simp only [zz1, zz2, zz3, zz4, zz5, zz6, zz7, zz8] at hc
      have hjt : j < p.length := by omega
      have hg2 := celsGet p j hjt
      repeat' first | refine zzs ?_ | refine zzb ?_ | refine zzk ?_
      first | refine zzr hnt rfl ?_ ?_ | refine zzd hnt rfl ?_ ?_
      · rw [Int.toNat_natCast, hg2]
        exact zza
      rw [Int.toNat_natCast, hg2, celTake]
      have hjs := drop_getD (d := cel0) hjt
      have hbm : p.getD j cel0 ∈ p := by
        rw [List.getD_eq_getElem?_getD, List.getElem?_eq_getElem hjt]
        exact List.getElem_mem hjt
      have hbk := hpm _ hbm
      generalize p.getD j cel0 = b at *
      clear hg2 hbm
      rw [hjs, hasK, List.any_cons] at hj
      obtain ⟨bf, br⟩ := b
      obtain ⟨cf, cr⟩ := c
      cases bf <;> cases cf
      · repeat' first | refine zzs ?_ | refine zzb ?_ | refine zzk ?_
        first | refine zzr hnt rfl ?_ ?_ | refine zzd hnt rfl ?_ ?_
        · (dsimp only [AllP]; (repeat' first | exact trivial | assumption | exact Nat.le_of_ble_eq_true rfl | apply And.intro | (intro hh_; exact absurd (show false = true from hh_) Bool.false_ne_true) | intro _ | exact rfl))
        repeat' first | refine zzs ?_ | refine zzb ?_ | refine zzk ?_
        refine tr_cond rfl (fun hc => ?_) (fun hc => ?_)
        · exact absurd (show false = true from hc) Bool.false_ne_true
        repeat' first | refine zzs ?_ | refine zzr hnt rfl ?_ ?_ | refine zzd hnt rfl ?_ ?_ | refine zzb ?_ | refine zzk ?_
        · exact zzt
        refine ⟨j + 1, ⟨by first | exact hj | exact ⟨fun h => absurd h.1 Bool.false_ne_true, fun h => absurd h.1 Bool.false_ne_true⟩, by omega⟩, by omega, le_of (ad := []) ⟨zzl, zzl, zzl, zzl, zzl, zzl, zzl, trivial⟩ (memOk_box rfl rfl rfl (memOk_box rfl rfl rfl trivial))⟩
      · repeat' first | refine zzs ?_ | refine zzb ?_ | refine zzk ?_
        first | refine zzr hnt rfl ?_ ?_ | refine zzd hnt rfl ?_ ?_
        · (dsimp only [AllP]; (repeat' first | exact trivial | assumption | exact Nat.le_of_ble_eq_true rfl | apply And.intro | (intro hh_; exact absurd (show false = true from hh_) Bool.false_ne_true) | intro _ | exact rfl))
        repeat' first | refine zzs ?_ | refine zzb ?_ | refine zzk ?_
        refine tr_cond rfl (fun hc => ?_) (fun hc => ?_)
        · exact absurd (show false = true from hc) Bool.false_ne_true
        repeat' first | refine zzs ?_ | refine zzr hnt rfl ?_ ?_ | refine zzd hnt rfl ?_ ?_ | refine zzb ?_ | refine zzk ?_
        · exact zzt
        refine ⟨j + 1, ⟨by first | exact hj | exact ⟨fun h => absurd h.1 Bool.false_ne_true, fun h => absurd h.1 Bool.false_ne_true⟩, by omega⟩, by omega, le_of (ad := []) ⟨zzl, zzl, zzl, zzl, zzl, zzl, zzl, trivial⟩ (memOk_box rfl rfl rfl (memOk_box rfl rfl rfl trivial))⟩
      · repeat' first | refine zzs ?_ | refine zzb ?_ | refine zzk ?_
        first | refine zzr hnt rfl ?_ ?_ | refine zzd hnt rfl ?_ ?_
        · (dsimp only [AllP]; (repeat' first | exact trivial | assumption | exact Nat.le_of_ble_eq_true rfl | apply And.intro | (intro hh_; exact absurd (show false = true from hh_) Bool.false_ne_true) | intro _ | exact rfl))
        repeat' first | refine zzs ?_ | refine zzb ?_ | refine zzk ?_
        refine tr_cond rfl (fun hc => ?_) (fun hc => ?_)
        · exact absurd (show false = true from hc) Bool.false_ne_true
        repeat' first | refine zzs ?_ | refine zzr hnt rfl ?_ ?_ | refine zzd hnt rfl ?_ ?_ | refine zzb ?_ | refine zzk ?_
        · exact zzt
        refine ⟨j + 1, ⟨by first | exact hj | exact ⟨fun h => absurd h.1 Bool.false_ne_true, fun h => absurd h.1 Bool.false_ne_true⟩, by omega⟩, by omega, le_of (ad := []) ⟨zzl, zzl, zzl, zzl, zzl, zzl, zzl, trivial⟩ (memOk_box rfl rfl rfl (memOk_box rfl rfl rfl trivial))⟩
      · obtain ⟨b1, b2, b3, b4⟩ := hbk rfl
        obtain ⟨c1, c2, c3, c4⟩ := hck rfl
        dsimp only at b1 b2 b3 b4 c1 c2 c3 c4
        cases br with
        | nil => exact absurd rfl b1
        | cons v br =>
          cases cr with
          | nil => exact absurd rfl c1
          | cons u cr =>
            repeat' first | refine zzs ?_ | refine zzb ?_ | refine zzk ?_
            first | refine zzr hnt rfl ?_ ?_ | refine zzd hnt rfl ?_ ?_
            · (dsimp only [AllP]; (repeat' first | exact trivial | assumption | exact Nat.le_of_ble_eq_true rfl | apply And.intro | exact rfl | (intro _) | exact Int.natCast_pos.2 (Nat.succ_pos _) | exact Int.le_refl _))
            have b2 : v.k = 2 := b2
            have b3 : v.b = 0 := b3
            have b4 : v.t = [] := b4
            have c2 : u.k = 2 := c2
            have c3 : u.b = 0 := c3
            have c4 : u.t = [] := c4
            repeat' first | refine zzs ?_ | refine zzb ?_ | refine zzk ?_
            refine tr_cond rfl (fun hc => ?_) (fun hc => ?_)
            · have hc : (eqD tab 9 28 (.agg (.es (List.take 4 (List.drop 0 (eVal v))))) (.agg (.es (List.take 4 (List.drop 0 (eVal u)))))).2 = true := hc
              rw [eqV2, decide_eq_true_eq] at hc
              have hk1 : (decide (key ⟨true, v :: br⟩ = key ⟨true, u :: cr⟩)) = true := decide_eq_true hc.2.1
              rw [hk1] at hj
              rw [if_pos (hj.1 ⟨rfl, rfl⟩)] at hi
              rw [← hi]
              repeat' first | refine zzs ?_ | refine zzr hnt rfl ?_ ?_ | refine zzd hnt rfl ?_ ?_ | refine zzb ?_ | refine zzk ?_
              · exact zzt
              exact tr_ret ⟨.inr rfl, _, _, rfl, trivial, rfl⟩
            have hc : (eqD tab 9 28 (.agg (.es (List.take 4 (List.drop 0 (eVal v))))) (.agg (.es (List.take 4 (List.drop 0 (eVal u)))))).2 = false := hc
            rw [eqV2, decide_eq_false_iff_not, b2, b3, b4, c2, c3, c4] at hc
            have hk1 : (decide (key ⟨true, v :: br⟩ = key ⟨true, u :: cr⟩)) = false := decide_eq_false fun h => hc ⟨rfl, h, rfl, rfl⟩
            rw [hk1] at hj
            repeat' first | refine zzs ?_ | refine zzr hnt rfl ?_ ?_ | refine zzd hnt rfl ?_ ?_ | refine zzb ?_ | refine zzk ?_
            · exact zzt
            refine ⟨j + 1, ⟨hj, by omega⟩, by omega, le_of (ad := []) ⟨zzl, zzl, zzl, zzl, zzl, zzl, zzl, trivial⟩ (memOk_box rfl rfl rfl (memOk_box rfl rfl rfl trivial))⟩
    simp only [zz1, zz2, zz3, zz4, zz5, zz6, zz7, zz8] at hc
    refine tr_exit ?_
    rw [List.drop_eq_nil_of_le (by omega)] at hj
    rw [if_neg (fun h => Bool.false_ne_true (hj.2 h).2)] at hi
    repeat' first | refine zzs ?_ | refine zzr hnt rfl ?_ ?_ | refine zzd hnt rfl ?_ ?_ | refine zzb ?_ | refine zzk ?_
    · exact zzt
    refine ⟨i + 1, ⟨hi, by omega⟩, by omega, le_of (ad := []) ⟨zzl, zzl, zzl, trivial⟩ (memOk_box rfl rfl rfl trivial)⟩
  simp only [zz1, zz2, zz3, zz4, zz5, zz6, zz7, zz8] at hc
  refine tr_exit ?_
  rw [← hi, List.drop_eq_nil_of_le (by omega), kF]
  repeat' first | refine zzs ?_ | refine zzr hnt rfl ?_ ?_ | refine zzd hnt rfl ?_ ?_ | refine zzb ?_ | refine zzk ?_
  · exact zzt
  exact tr_ret ⟨.inr rfl, _, _, rfl, trivial, rfl⟩
def sK (p : List Cel) : List Int := (p.filter fun c => c.f).map key
theorem sK_has (k : Int) : ∀ p : List Cel, ((sK p).any fun a => decide (a = k)) = hasK p k
  | [] => rfl
  | c :: p => by
    have ih := sK_has k p
    unfold sK hasK at *
    cases h : c.f with
    | true => rw [List.filter_cons_of_pos h, List.map_cons, List.any_cons, List.any_cons, ih, h, Bool.true_and]
    | false => rw [List.filter_cons_of_neg (by rw [h]; exact Bool.false_ne_true), List.any_cons, ih, h, Bool.false_and, Bool.false_or]
theorem sK_len (p : List Cel) : (sK p).length ≤ p.length := by
  unfold sK
  rw [List.length_map]
  exact List.length_filter_le ..
def eKs (l : List Int) : List (List E) := l.map fun n => [eI n]
set_option maxRecDepth 10000 in
set_option maxHeartbeats 2000000 in
theorem keysFault_fn (d : List Cel) (h4 : d.length = 4) (hk : ∀ c ∈ d, kOk c) : FnD Tryz.prog 46 [.agg (.es (eDr d))] (.one (.e (eI (kF [] d)))) := by
  refine fn_intro (T := tab) tOk Tryz.func46 rfl (by kernel_rfl) (by simp [Tryz.ntmps46]) ?_
  intro X hX
  have hnt : X.nt = 38 := hX
  clear hX
  have h8 := drLen d h4
  have f8 : 0 + 8 ≤ (Cs.es (eDr d)).len := by show 0 + 8 ≤ (eDr d).length; omega
  repeat' first | refine zzs ?_ | refine zzr hnt rfl ?_ ?_ | refine zzd hnt rfl ?_ ?_ | refine zzb ?_ | refine zzk ?_
  · exact zzt
  repeat' first | refine zzs ?_ | refine zzr hnt rfl ?_ ?_ | refine zzd hnt rfl ?_ ?_ | refine zzb ?_ | refine zzk ?_
  · exact zzt
  repeat' first | refine zzs ?_ | refine zzr hnt rfl ?_ ?_ | refine zzd hnt rfl ?_ ?_ | refine zzb ?_ | refine zzk ?_
  · exact zzt
  rw [show List.take 8 (List.drop 0 (eDr d)) = eDr d from List.take_of_length_le (Nat.le_of_eq h8)]
  repeat' first | refine zzs ?_ | refine zzb ?_ | refine zzk ?_
  refine tr_loop (σ := Nat) (fun i => St.of [(3, .one (.own 36 0)), (8, .agg (.es (eDr d))), (9, .one (.e (eI (i : Int))))] [(36, ⟨0, .row 1 (eKs (sK (d.take i))), 0⟩)]) (fun i => kF (d.take i) (d.drop i) = kF [] d ∧ i ≤ d.length) (fun i => d.length - i) (0) (le_of (ad := [36]) ⟨zzl, zzl, zzl, trivial⟩ (memOk_new rfl (by decide) trivial)) ⟨rfl, Nat.zero_le _⟩ ?_
  rintro i ⟨hi, il⟩
  repeat' first | refine zzs ?_ | refine zzr hnt rfl ?_ ?_ | refine zzd hnt rfl ?_ ?_ | refine zzb ?_ | refine zzk ?_
  · exact zzt
  repeat' first | refine zzs ?_ | refine zzb ?_ | refine zzk ?_
  refine tr_cond rfl (fun hc => ?_) (fun hc => ?_)
  · simp only [zz1, zz2, zz3, zz4, zz5, zz6, zz7, zz8] at hc
    have hlt : i < d.length := by omega
    have hts := take_succ (d := cel0) hlt
    have hsl := sK_len (d.take i)
    rw [List.length_take] at hsl
    have hsl : (sK (d.take i)).length ≤ 4 := by omega
    rw [drop_getD (d := cel0) hlt, kF, ← hts] at hi
    have hg : List.take 2 (List.drop ((i : Int).toNat * 2) (eDr d)) = eCel (d.getD i cel0) := flatGet eCel 2 cel0 (fun _ => rfl) d i hlt
    have e2 : (Cs.es (List.take 2 (List.drop ((i : Int).toNat * 2) (eDr d)))).len = 2 := congrArg List.length hg
    have l8 : i * 2 + 2 ≤ (Cs.es (eDr d)).len := by show _ ≤ (eDr d).length; omega
    repeat' first | refine zzs ?_ | refine zzb ?_ | refine zzk ?_
    first | refine zzr hnt rfl ?_ ?_ | refine zzd hnt rfl ?_ ?_
    · exact zza
    rw [hg]
    have hcm : d.getD i cel0 ∈ d := by
      rw [List.getD_eq_getElem?_getD, List.getElem?_eq_getElem hlt]
      exact List.getElem_mem hlt
    have hck := hk _ hcm
    have hsk : sK (d.take (i + 1)) = sK (d.take i) ++ (if (d.getD i cel0).f = true then [key (d.getD i cel0)] else []) := by
      rw [hts]
      unfold sK
      rw [List.filter_append, List.map_append]
      by_cases h : (d.getD i cel0).f = true
      · rw [if_pos h, List.filter_cons_of_pos h]
        rfl
      · rw [if_neg h, List.filter_cons_of_neg h]
        rfl
    rw [← sK_has] at hi
    generalize d.getD i cel0 = c at *
    clear hcm hts
    obtain ⟨cf, cr⟩ := c
    repeat' first | refine zzs ?_ | refine zzb ?_ | refine zzk ?_
    first | refine zzr hnt rfl ?_ ?_ | refine zzd hnt rfl ?_ ?_
    · exact zza
    repeat' first | refine zzs ?_ | refine zzb ?_ | refine zzk ?_
    refine tr_cond rfl (fun hc => ?_) (fun hc => ?_)
    · have hc : cf = false := by have hc : (!cf) = true := hc; cases cf; rfl; exact absurd hc (by decide)
      subst hc
      rw [if_neg (fun h => Bool.false_ne_true h.1)] at hi
      rw [if_neg Bool.false_ne_true, List.append_nil] at hsk
      refine tr_exit ?_
      repeat' first | refine zzs ?_ | refine zzr hnt rfl ?_ ?_ | refine zzd hnt rfl ?_ ?_ | refine zzb ?_ | refine zzk ?_
      · exact zzt
      rw [← hsk]
      refine ⟨i + 1, ⟨hi, by omega⟩, by omega, le_of (ad := []) ⟨zzl, zzl, zzl, trivial⟩ (memOk_row rfl rfl rfl trivial)⟩
    have hc : cf = true := by have hc : (!cf) = false := hc; cases cf; exact absurd hc (by decide); rfl
    subst hc
    rw [if_pos rfl] at hsk
    obtain ⟨c1, c2, c3, c4⟩ := hck rfl
    dsimp only at c1 c2 c3 c4
    cases cr with
    | nil => exact absurd rfl c1
    | cons u cr =>
      clear c1 c2 c3 c4 hck
      generalize sK (d.take i) = s at *
      repeat' first | refine zzs ?_ | refine zzr hnt rfl ?_ ?_ | refine zzd hnt rfl ?_ ?_ | refine zzb ?_ | refine zzk ?_
      · exact zzt
      have hml : (eKs s).length = s.length := List.length_map ..
      repeat' first | refine zzs ?_ | refine zzb ?_ | refine zzk ?_
      refine tr_loop (σ := Nat) (fun j => St.of [(3, .one (.own 36 0)), (5, .one (.ptr 5 0 0)), (8, .agg (.es (eDr d))), (9, .one (.e (eI (i : Int)))), (15, .one (.own 36 0)), (16, .one (.e (eI ((eKs s).length : Int)))), (17, .one (.e (eI (j : Int))))] [(5, ⟨0, .box (.es (eCel ⟨true, u :: cr⟩)), 0⟩), (36, ⟨0, .row 1 (eKs s), 0⟩)]) (fun j => ((s.drop j).any fun a => decide (a = u.i)) = (s.any fun a => decide (a = u.i)) ∧ j ≤ s.length) (fun j => s.length - j) (0) (le_of (ad := []) ⟨zzl, zzl, zzl, zzl, zzl, zzl, zzl, trivial⟩ (memOk_box rfl rfl rfl (memOk_row rfl rfl rfl trivial))) ⟨rfl, Nat.zero_le _⟩ ?_
      rintro j ⟨hj, jl⟩
      repeat' first | refine zzs ?_ | refine zzr hnt rfl ?_ ?_ | refine zzd hnt rfl ?_ ?_ | refine zzb ?_ | refine zzk ?_
      · exact zzt
      repeat' first | refine zzs ?_ | refine zzb ?_ | refine zzk ?_
      refine tr_cond rfl (fun hc => ?_) (fun hc => ?_)
      · simp only [zz1, zz2, zz3, zz4, zz5, zz6, zz7, zz8] at hc
        (try simp only [hml] at hc)
        (try simp only [zz1, zz2, zz3, zz4, zz5, zz6, zz7, zz8] at hc)
        have hjt : j < s.length := by omega
        rw [drop_getD (d := 0) hjt, List.any_cons] at hj
        have hg2 : (eKs s).getD j [] = [eI (s.getD j 0)] := by
          unfold eKs
          rw [List.getD_eq_getElem?_getD, List.getElem?_map, List.getElem?_eq_getElem hjt, List.getD_eq_getElem?_getD, List.getElem?_eq_getElem hjt]
          rfl
        repeat' first | refine zzs ?_ | refine zzb ?_ | refine zzk ?_
        first | refine zzr hnt rfl ?_ ?_ | refine zzd hnt rfl ?_ ?_
        · rw [Int.toNat_natCast, hg2, hml]
          exact zza
        rw [Int.toNat_natCast, hg2]
        generalize s.getD j 0 = k at *
        repeat' first | refine zzs ?_ | refine zzb ?_ | refine zzk ?_
        first | refine zzr hnt rfl ?_ ?_ | refine zzd hnt rfl ?_ ?_
        · (dsimp only [AllP]; (repeat' first | exact trivial | assumption | exact Nat.le_of_ble_eq_true rfl | apply And.intro | exact rfl | (intro _) | exact Int.natCast_pos.2 (Nat.succ_pos _) | exact Int.le_refl _))
        repeat' first | refine zzs ?_ | refine zzb ?_ | refine zzk ?_
        refine tr_cond rfl (fun hc => ?_) (fun hc => ?_)
        · have hc : decide (k = u.i) = true := hc
          rw [hc, Bool.true_or] at hj
          rw [if_pos ⟨rfl, hj.symm⟩] at hi
          rw [← hi]
          repeat' first | refine zzs ?_ | refine zzr hnt rfl ?_ ?_ | refine zzd hnt rfl ?_ ?_ | refine zzb ?_ | refine zzk ?_
          · exact zzt
          exact tr_ret ⟨.inr rfl, _, _, rfl, trivial, rfl⟩
        have hc : decide (k = u.i) = false := hc
        rw [hc, Bool.false_or] at hj
        repeat' first | refine zzs ?_ | refine zzr hnt rfl ?_ ?_ | refine zzd hnt rfl ?_ ?_ | refine zzb ?_ | refine zzk ?_
        · exact zzt
        refine ⟨j + 1, ⟨hj, by omega⟩, by omega, le_of (ad := []) ⟨zzl, zzl, zzl, zzl, zzl, zzl, zzl, trivial⟩ (memOk_box rfl rfl rfl (memOk_row rfl rfl rfl trivial))⟩
      simp only [zz1, zz2, zz3, zz4, zz5, zz6, zz7, zz8] at hc
      (try simp only [hml] at hc)
      (try simp only [zz1, zz2, zz3, zz4, zz5, zz6, zz7, zz8] at hc)
      refine tr_exit ?_
      rw [List.drop_eq_nil_of_le (by omega)] at hj
      rw [if_neg (fun h => Bool.false_ne_true (hj.trans h.2))] at hi
      have hsl2 : (eKs s).length + 1 ≤ 5 := by omega
      repeat' first | refine zzs ?_ | refine zzb ?_ | refine zzk ?_
      first | refine zzr hnt rfl ?_ ?_ | refine zzd hnt rfl ?_ ?_
      · (dsimp only [AllP]; (repeat' first | exact trivial | assumption | exact Nat.le_of_ble_eq_true rfl | apply And.intro | exact rfl | (intro _) | exact Int.natCast_pos.2 (Nat.succ_pos _) | exact Int.le_refl _ | exact Nat.le_trans hsl2 (by decide) | exact Nat.le_trans (Nat.mul_le_mul_right _ hsl2) (by decide)))
      have hsk : eKs s ++ [[eI u.i]] = eKs (sK (d.take (i + 1))) := by rw [hsk]; unfold eKs; rw [List.map_append]; rfl
      repeat' first | refine zzs ?_ | refine zzr hnt rfl ?_ ?_ | refine zzd hnt rfl ?_ ?_ | refine zzb ?_ | refine zzk ?_
      · exact zzt
      refine ⟨i + 1, ⟨hi, by omega⟩, by omega, le_of (ad := []) ⟨zzl, zzl, zzl, trivial⟩ (memOk_row rfl rfl hsk trivial)⟩
  simp only [zz1, zz2, zz3, zz4, zz5, zz6, zz7, zz8] at hc
  refine tr_exit ?_
  rw [← hi, List.drop_eq_nil_of_le (by omega), kF]
  repeat' first | refine zzs ?_ | refine zzr hnt rfl ?_ ?_ | refine zzd hnt rfl ?_ ?_ | refine zzb ?_ | refine zzk ?_
  · exact zzt
  exact tr_ret ⟨.inr rfl, _, _, rfl, trivial, rfl⟩
end Go.Proofs.YthnadkafegmacaaGreatDoor
