/- Part of the proof: steps of the program over abstract states. No condition. -/
import Derived.Test.YtcdifgacoleckaaGreatDoorG06
import Derived.Test.YtcdifgacoleckaaGreatDoorG08
set_option linter.unusedVariables false
set_option linter.unusedSimpArgs false
namespace Go.Proofs.YtcdifgacoleckaaGreatDoor
open Go Go.RowKit Go.Proofs.YtcdifgacoleckaaGreatDoor.Ab
set_option maxRecDepth 100000
set_option maxHeartbeats 4000000
def eRd (l : List Tok) (p : Nat) : List E := [zFU l, eI (p : Int)]
def msR (l : List Tok) (p : Nat) : List (Nat × Blk) := [(900000, ⟨0, .box (.es (eRd l p)), 0⟩)]
def chS (s : Spot) : List PanicEntry := [{ v := .iface 138 (.agg #[.int .i64 (s.p : Int), .int .i64 s.e]), recovered := false }]
theorem bX : ∀ b : Bool, (bif (bif true then b else false) then decide ((0 : Int) = 0) else false) = b := by decide
theorem zOk (l : List Tok) (p : Nat) (t : Tok) (ht : t.t.length <= maxLen) (h0 : tkF t = 0) : FnH Tryz.prog 120 (gK) (msR l p) [ptS, .agg (.es (zBO t))] (.v (.bool (zAc l ⟨p, 0⟩ t))) (msR l p) := by
 refine zFH 34 Tryz.func120 fun X hnt => ?_
 have h1 : ((eRd l p).getD (0 + 0) E.dflt).xs.length = l.length := List.length_map ..
 have h2 : ((eRd l p).getD (0 + 1) E.dflt).int = (p : Int) := rfl
 have hg : p < l.length -> ((eRd l p).getD (0 + 0) E.dflt).xs.getD ((eRd l p).getD (0 + 1) E.dflt).int.toNat [] = zBO (l.getD p zBj) := fun h => zDQ l h
 have hk := zCU t ht
 rw [h0] at hk
 repeat' first | refine zx ?_ | apply zn
 repeat' apply zn
 refine zAK (T := tab) tOk hnt zAO (zA2 (T := tab) rfl ?_ (zI3 rfl rfl rfl rfl rfl rfl rfl rfl (fun hq => ?_) rfl (fun hq => hk) (zA2 (T := tab) rfl ?_ (.nil _)))) (by first | decide +kernel | kernel_rfl) ?_
 ·(dsimp only [zBh]; (repeat' first | exact trivial | assumption | exact Nat.le_of_ble_eq_true rfl | apply And.intro | exact zAm _ _ ‹_› | exact zAi _ _ ‹_› | (intro hh_; have hg_ := hh_; (try simp only [zAr, zAs, zBm, zBp, Bool.and_eq_true, ne_eq, decide_eq_true_eq, decide_eq_false_iff_not] at hg_)) | intro _ | exact rfl | omega))
  all_goals (rw [hg (by omega)]; first | exact rfl | exact Nat.le_of_ble_eq_true rfl)
 ·exact zza
 ·exact zza
 refine zAb ⟨.inr rfl, _, _, _, rfl, zzp, rfl, fun X => zAh (ad := []) ⟨congrArg (fun b => E.v (.bool b)) ?_, ⟨rfl, rfl, rfl, rfl, rfl⟩, trivial⟩ zm⟩
 by_cases hlt : p < l.length
 ·have e1 : decide (((eRd l p).getD (0 + 1) E.dflt).int < (((eRd l p).getD (0 + 0) E.dflt).xs.length : Int)) = true := decide_eq_true (by omega)
  have hs : zAc l ⟨p, 0⟩ t = decide (l.getD p zBj = t) := by
   unfold zAc
   rw [decide_eq_decide]
   exact ⟨fun h => h.2.2, fun h => ⟨rfl, hlt, h⟩⟩
  rw [e1, hg hlt, hs, <-zVw]
  exact bX _
 ·have e1 : decide (((eRd l p).getD (0 + 1) E.dflt).int < (((eRd l p).getD (0 + 0) E.dflt).xs.length : Int)) = false := decide_eq_false (by omega)
  have hs : zAc l ⟨p, 0⟩ t = false := by
   unfold zAc
   exact decide_eq_false fun h => hlt h.2.1
  rw [e1, hs]
  rfl
theorem zLh (l : List Tok) (p : Nat) : FnP Tryz.prog 127 [] (msR l p) [ptS] (chS (zBQ l ⟨p, 0⟩)) (msR l) := by
 refine zJ3 Tryz.func127 rfl (by kernel_rfl) (by simp [Tryz.ntmps127]) rfl (fun _ => rfl) ?_
 intro X hX
 have hnt : X.nt = 24 := hX
 clear hX
 have h1 : ((eRd l p).getD (0 + 0) E.dflt).xs.length = l.length := List.length_map ..
 have h2 : ((eRd l p).getD (0 + 1) E.dflt).int = (p : Int) := rfl
 have hg : p < l.length -> ((eRd l p).getD (0 + 0) E.dflt).xs.getD ((eRd l p).getD (0 + 1) E.dflt).int.toNat [] = zBO (l.getD p zBj) := fun h => zDQ l h
 repeat' first | refine zx ?_ | fail
 refine zc (fun hc => ?_) fun hc => ?_
 ·simp only [zz] at hc
  (try simp only [h1, h2] at hc)
  (try simp only [zz] at hc)
  have hb : zBQ l ⟨p, 0⟩ = ⟨p, 4⟩ := by
   unfold zBQ
   rw [if_pos rfl, if_pos (by show l.length <= p; omega)]
  rw [hb]
  repeat' apply zn
  refine zAE 6 (zzx hnt rfl ?_ (Lex.nil _)) (zJG rfl rfl rfl rfl) (fun _ => ?_)
  ·exact zzt
  exact ⟨rfl, _, fun X => zle⟩
 simp only [zz] at hc
 (try simp only [h1, h2] at hc)
 (try simp only [zz] at hc)
 have hb : zBQ l ⟨p, 0⟩ = ⟨p, 3⟩ := by
  unfold zBQ
  rw [if_pos rfl, if_neg (by show ¬ l.length <= p; omega)]
 rw [hb]
 repeat' apply zn
 refine zAE 6 (zzx hnt rfl ?_ (Lex.nil _)) (zJG rfl rfl rfl rfl) (fun _ => ?_)
 ·exact zzt
 exact ⟨rfl, _, fun X => zle⟩
theorem zT2 (l : List Tok) {p : Nat} (h : p < 9223372036854775807) : [zFU l, E.v (.int .i64 (IntKind.i64.wrap (((p : Nat) : Int) + 1)))] = eRd l (p + 1) := by
 rw [zAf (by omega) (by omega)]
 rfl
theorem zCA (l : List Tok) (p : Nat) (t : Tok) (ht : t.t.length <= maxLen) (h0 : tkF t = 0) (hs : zAc l ⟨p, 0⟩ t = false) : FnH Tryz.prog 116 (gK) (msR l p) [ptS, .agg (.es (zBO t))] (.v (.bool false)) (msR l p) := by
 refine zFH 16 Tryz.func116 fun X hnt => ?_
 have hi := zOk l p t ht h0
 rw [hs] at hi
 repeat' first | refine zx ?_ | fail
 refine zH [(900000, 900000)] [] [] hi ?_
 refine zc (fun hc => ?_) fun hc => ?_
 ·repeat' first | refine zx ?_ | apply zn
  exact zAb ⟨.inr rfl, _, _, _, rfl, zzp, rfl, fun X => zle⟩
 exact absurd hc Bool.noConfusion
theorem zB2 (l : List Tok) (hm : l.length <= maxLen) (p : Nat) (t : Tok) (ht : t.t.length <= maxLen) (h0 : tkF t = 0) (hs : zAc l ⟨p, 0⟩ t = true) : FnH Tryz.prog 116 (gK) (msR l p) [ptS, .agg (.es (zBO t))] (.v (.bool true)) (msR l (p + 1)) := by
 refine zFH 16 Tryz.func116 fun X hnt => ?_
 have hm' : l.length <= 9223372036854775807 := Nat.le_trans hm (by decide)
 have hlt : p < l.length := (zAw.1 hs).2.1
 have hi := zOk l p t ht h0
 rw [hs] at hi
 repeat' first | refine zx ?_ | fail
 refine zH [(900000, 900000)] [] [] hi ?_
 refine zc (fun hc => ?_) fun hc => ?_
 ·exact absurd hc Bool.noConfusion
 repeat' first | refine zx ?_ | apply zn
 exact zAb ⟨.inr rfl, _, _, _, rfl, zzp, rfl, fun X => zAh (ad := []) zzi (zAg rfl rfl (zT2 l (p := p) (by omega)) trivial)⟩
theorem zA6 {l : List Tok} {s : Spot} {t : Tok} (hs : zAc l s t = true) : zAk l s [t] = ⟨s.p + 1, s.e⟩ := by
 rw [zAQ, if_pos hs]
 rfl
theorem zDB {l : List Tok} {s : Spot} {t : Tok} {r : List Tok} (hs : zAc l s t = false) : zAk l s (t :: r) = zBQ l s := by
 rw [zAQ, if_neg (by rw [hs]; exact Bool.noConfusion)]
theorem zCY {l : List Tok} {p : Nat} : (zBQ l ⟨p, 0⟩).e ≠ 0 := by
 unfold zBQ
 rw [if_pos rfl]
 show (if l.length <= p then (4 : Int) else 3) ≠ 0
 split <;> decide
theorem zEI (l : List Tok) (hm : l.length <= maxLen) (p : Nat) (t : Tok) (ht : t.t.length <= maxLen) (h0 : tkF t = 0) : FnR Tryz.prog 125 (gK) (msR l p) [ptS, .agg (.es (zBO t))] ((zAk l ⟨p, 0⟩ [t]).e = 0) (.tup []) (msR l (zAk l ⟨p, 0⟩ [t]).p) (msR l) (chS (zAk l ⟨p, 0⟩ [t])) := by
 refine zBG (T := tab) tOk Tryz.func125 rfl (by kernel_rfl) (by simp [Tryz.ntmps125]) rfl rfl (fun _ => rfl) ?_
 intro X hX
 have hnt : X.nt = 10 := hX
 clear hX
 repeat' first | refine zx ?_ | apply zn
 cases hs : zAc l ⟨p, 0⟩ t with
 | true =>
  rw [zA6 hs]
  refine zH [(900000, 900000)] [] [] (zB2 l hm p t ht h0 hs) ?_
  refine zc (fun hc => ?_) fun hc => ?_
  ·exact absurd hc Bool.noConfusion
  repeat' apply zn
  exact ⟨fun _ => ⟨.inl rfl, _, _, _, rfl, zzp, rfl, fun X => zle⟩, fun h => absurd rfl h⟩
 | false =>
  rw [zDB hs]
  refine zH [(900000, 900000)] [] [] (zCA l p t ht h0 hs) ?_
  refine zc (fun hc => ?_) fun hc => ?_
  ·refine zP 1 [(900000, 900000)] [] [] (zLh l p) fun _ => ?_
   have hp : (zBQ l ⟨p, 0⟩).p = p := zKp l _
   exact ⟨fun h => absurd h zCY, fun _ => ⟨rfl, _, fun X => zle⟩⟩
  exact absurd hc Bool.noConfusion
theorem zN2 (op : Int) (a b : Ex) : FnD Tryz.prog 118 [.one (.e (eI op)), .agg (.es (eEx a)), .agg (.es (eEx b))] (.agg (.es (eEx (.mk op zBD [] [a, b])))) := by
 refine zD 12 Tryz.func118 fun X hnt => ?_
 have he : eEx (.mk op zBD [] [a, b]) = [eI op, eI 0, eI 0, eQ 0, eT [], eT [], .sl [eEx a, eEx b]] := by
  rw [zBZ]
  rfl
 rw [he]
 obtain ⟨o1, v1, n1, r1⟩ := a
 obtain ⟨o2, v2, n2, r2⟩ := b
 rw [zBZ, zBZ]
 repeat' first | refine zx ?_ | apply zn
 exact zAb ⟨.inr rfl, _, _, rfl, zzp, rfl⟩
theorem zFA (v : Val) : FnD Tryz.prog 131 [.agg (.es (zBw v))] (.agg (.es (eEx (zEi v)))) := by
 refine zD 5 Tryz.func131 fun X hnt => ?_
 have he : eEx (zEi v) = [eI 1, eI v.k, eI v.i, eQ v.b, eT v.t, eT [], .sl []] := by
  unfold zEi
  rw [zBZ]
  rfl
 rw [he]
 repeat' first | refine zx ?_ | apply zn
 exact zAb ⟨.inr rfl, _, _, rfl, zzp, rfl⟩
def Rds (l : List Tok) (f : Nat) (F : Spot -> Ex × Spot) (p : Nat) : Prop :=
 FnR Tryz.prog f gK (msR l p) [ptS] ((F ⟨p, 0⟩).2.e = 0) (.agg (.es (eEx (F ⟨p, 0⟩).1))) (msR l (F ⟨p, 0⟩).2.p) (msR l) (chS (F ⟨p, 0⟩).2)
abbrev zWu (f : Nat) : D := .one (.clo (1048576 + f) [(900000, 0, 0)])
def zRX (ops : List Int) : List (List E) := ops.map fun o => [eI o]
theorem zRG (ops : List Int) {i : Nat} (h : i < ops.length) : (zRX ops).getD i [] = [eI (ops.getD i 0)] := by
 unfold zRX
 rw [List.getD_eq_getElem?_getD, List.getElem?_map, List.getElem?_eq_getElem h, List.getD_eq_getElem?_getD, List.getElem?_eq_getElem h]
 rfl
theorem zUe (ops : List Int) : (zRX ops).length = ops.length := List.length_map ..
theorem zLf {f : Int -> Bool} : ∀ {ops : List Int} {i : Nat}, i < ops.length -> (∀ j, j < i -> f (ops.getD j 0) = false) -> f (ops.getD i 0) = true -> ops.find? f = some (ops.getD i 0)
 | a :: r, 0, _, _, h => by
  have h : f a = true := h
  rw [List.find?_cons_of_pos h]
  rfl
 | a :: r, i + 1, hi, hb, h => by
  have h0 : f a = false := hb 0 (Nat.succ_pos _)
  rw [List.find?_cons_of_neg (by rw [h0]; exact Bool.noConfusion)]
  exact zLf (ops := r) (Nat.lt_of_succ_lt_succ hi) (fun j hj => hb (j + 1) (Nat.succ_lt_succ hj)) h
theorem zJ6 {f : Int -> Bool} {ops : List Int} (h : ∀ j, j < ops.length -> f (ops.getD j 0) = false) : ops.find? f = none := by
 rw [List.find?_eq_none]
 intro x hx
 obtain ⟨i, hi, rfl⟩ := List.getElem_of_mem hx
 have := h i hi
 rw [List.getD_eq_getElem?_getD, List.getElem?_eq_getElem hi] at this
 simpa using this
theorem zOM (op : Int) (h : (5 <= op /\ op <= 16) \/ op = 19) : (mkS op).t.length <= maxLen := by
 rcases (by omega : op = 5 \/ op = 6 \/ op = 7 \/ op = 8 \/ op = 9 \/ op = 10 \/ op = 11 \/ op = 12 \/ op = 13 \/ op = 14 \/ op = 15 \/ op = 16 \/ op = 19) with rfl | rfl | rfl | rfl | rfl | rfl | rfl | rfl | rfl | rfl | rfl | rfl | rfl <;> exact Nat.le_of_ble_eq_true rfl
theorem zRJ (op : Int) (h : (5 <= op /\ op <= 16) \/ op = 19) : tkF (mkS op) = 0 := by
 rcases (by omega : op = 5 \/ op = 6 \/ op = 7 \/ op = 8 \/ op = 9 \/ op = 10 \/ op = 11 \/ op = 12 \/ op = 13 \/ op = 14 \/ op = 15 \/ op = 16 \/ op = 19) with rfl | rfl | rfl | rfl | rfl | rfl | rfl | rfl | rfl | rfl | rfl | rfl | rfl <;> decide
theorem tk7 (e : Ex) : List.take 7 (List.drop 0 (eEx e)) = eEx e := by rw [zAp]; rfl
theorem zTi (e : Ex) : List.take 7 (List.drop 0 (List.take 7 (List.drop 0 (eEx e)))) = eEx e := by rw [tk7, tk7]
theorem pu7 (e x : Ex) : List.take 0 (eEx e) ++ eEx x ++ List.drop (0 + 7) (eEx e) = eEx x := by rw [zAp e, List.take_zero, List.nil_append]; exact List.append_nil _
structure ChS where
 m : Bool
 e : Ex
 p : Nat
 k : Nat
theorem zFl (l : List Tok) (hm : l.length <= maxLen) (p0 : Nat) (lv : Nat) (h3 : lv ≠ 3) (hops : ∀ o ∈ zDJ lv, (5 <= o /\ o <= 16) \/ o = 19) (hlen : (zDJ lv).length <= 10) (f : Nat) (F : Spot -> Ex × Spot) (hb : ∀ s, s.e ≠ 0 -> F s = (ex0, s)) (hfw : Fwd l F) (hp0 : p0 <= l.length) (hf : ∀ p, p0 <= p -> p <= l.length -> Rds l f F p) : FnR Tryz.prog 111 (gK) (msR l p0) [ptS, zWu f, .one (.e (.sl (zRX (zDJ lv))))] ((lpF l F lv (l.length + 1) (F ⟨p0, 0⟩).1 (F ⟨p0, 0⟩).2).2.e = 0) (.agg (.es (eEx (lpF l F lv (l.length + 1) (F ⟨p0, 0⟩).1 (F ⟨p0, 0⟩).2).1))) (msR l (lpF l F lv (l.length + 1) (F ⟨p0, 0⟩).1 (F ⟨p0, 0⟩).2).2.p) (msR l) (chS (lpF l F lv (l.length + 1) (F ⟨p0, 0⟩).1 (F ⟨p0, 0⟩).2).2) := by
 refine zBG (T := tab) tOk Tryz.func111 rfl (by kernel_rfl) (by simp [Tryz.ntmps111]) rfl rfl (fun _ => rfl) ?_
 intro X hX
 have hnt : X.nt = 31 := hX
 clear hX
 have hf0 := hf p0 (Nat.le_refl _) hp0
 unfold Rds at hf0
 have hw0 := hfw ⟨p0, 0⟩
 have hlw := zUe (zDJ lv)
 repeat' first | refine zx ?_ | apply zn
 generalize hr0 : F ⟨p0, 0⟩ = r0 at *
 obtain ⟨e0, s0⟩ := r0
 by_cases he0 : s0.e = 0
 ·have hf0 := hf0.1 he0
  have hx0 : (Cs.es (eEx e0)).len = 7 := by rw [zAp]; rfl
  repeat' apply zn
  refine zAa (zzx hnt rfl ?_ (zS5 (us := []) [(900000, 900000)] [] [] rfl rfl rfl rfl (hf0) zg (fun _ => rfl) rfl rfl hnt rfl rfl zzi zzi (zzx hnt rfl ?_ (Lex.nil _)))) ?_
  ·exact zza
  ·exact zza
  obtain ⟨q0, z0⟩ := s0
  have he0 : z0 = 0 := he0
  subst he0
  generalize hwh : lpF l F lv (l.length + 1) e0 ⟨q0, 0⟩ = wh at *
  repeat' first | refine zx ?_ | apply zn
  have hq0 : q0 <= l.length := hw0.2 hp0
  have hq1 : p0 <= q0 := hw0.1
  repeat' apply zn
  refine zAx (σ := ChS) (fun x => St.of [(0, ptS), (1, zWu f), (2, .one (.e (.sl (zRX (zDJ lv))))), (6, .one (.ptr 6 0 0)), (7, .one (.ptr 7 0 0)), (8, .one (.e (.v (.bool x.m)))), (900000, ptS), ((1000000 + 5), .one (.eptr fsE)), ((1000000 + 6), .one (.eptr acE))] [(6, ⟨0, .box (.ds [.e (eI 0), .e (eI 0), .e (eI 0), .e (eQ 0), .e (eT []), .e (eT []), .nil]), 0⟩), (7, ⟨0, .box (.es (eEx x.e)), 0⟩), (900000, ⟨0, .box (.es (eRd l x.p)), 0⟩)]) (fun x => p0 <= x.p /\ x.p <= l.length /\ l.length + 1 <= x.k + x.p /\ wh = (if x.m = true then lpF l F lv x.k x.e ⟨x.p, 0⟩ else (x.e, ⟨x.p, 0⟩))) (fun x => 2 * (l.length - x.p) + (if x.m = true then 1 else 0)) (⟨true, e0, q0, l.length + 1⟩) (zAh (ad := []) ⟨zzl, zzl, zzl, zzl, zzl, zzl, zzl, zzl, zzl, trivial⟩ zm) ⟨hq1, hq0, Nat.le_add_right _ _, hwh.symm⟩ ?_
  rintro ⟨m, e, p, k⟩ ⟨hp1, hp2, hk, hw⟩
  have hp1 : p0 <= p := hp1
  have hp2 : p <= l.length := hp2
  have hk : l.length + 1 <= k + p := hk
  repeat' first | refine zx ?_ | fail
  refine zc (fun hc => ?_) fun hc => ?_
  ·obtain rfl : m = true := hc
   have hw : wh = lpF l F lv k e ⟨p, 0⟩ := hw
   obtain ⟨k1, rfl⟩ : ∃ k1, k = k1 + 1 := ⟨k - 1, by omega⟩
   repeat' first | refine zx ?_ | apply zn
   repeat' apply zn
   refine zAx (σ := Nat) (fun i => St.of [(0, ptS), (1, zWu f), (2, .one (.e (.sl (zRX (zDJ lv))))), (6, .one (.ptr 6 0 0)), (7, .one (.ptr 7 0 0)), (8, .one (.e (.v (.bool false)))), (14, .one (.e (.sl (zRX (zDJ lv))))), (15, .one (.e (eI ((zRX (zDJ lv)).length : Int)))), (16, .one (.e (eI (i : Int)))), (900000, ptS), ((1000000 + 5), .one (.eptr fsE)), ((1000000 + 6), .one (.eptr acE))] [(6, ⟨0, .box (.ds [.e (eI 0), .e (eI 0), .e (eI 0), .e (eQ 0), .e (eT []), .e (eT []), .nil]), 0⟩), (7, ⟨0, .box (.es (eEx e)), 0⟩), (900000, ⟨0, .box (.es (eRd l p)), 0⟩)]) (fun i => i <= (zDJ lv).length /\ ∀ j, j < i -> zAc l ⟨p, 0⟩ (mkS ((zDJ lv).getD j 0)) = false) (fun i => (zDJ lv).length - i) (0) (zAh (ad := []) ⟨zzl, zzl, zzl, zzl, zzl, zzl, zzl, zzl, zzl, zzl, zzl, zzl, trivial⟩ zm) ⟨Nat.zero_le _, fun j hj => absurd hj (Nat.not_lt_zero _)⟩ ?_
   rintro i ⟨il, hno⟩
   repeat' first | refine zx ?_ | fail
   refine zc (fun hc => ?_) fun hc => ?_
   ·simp only [zz] at hc
    (try simp only [hlw] at hc)
    (try simp only [zz] at hc)
    have hlt : i < (zDJ lv).length := by omega
    have hor := hops ((zDJ lv).getD i 0) (by rw [List.getD_eq_getElem?_getD, List.getElem?_eq_getElem hlt]; exact List.getElem_mem hlt)
    refine zy ?_ ?_
    ·rw [Int.toNat_natCast, zRG _ hlt, hlw]
     exact zza
    rw [Int.toNat_natCast, zRG _ hlt]
    have hmk := zOO ((zDJ lv).getD i 0) hor
    have hm1 : (mkS ((zDJ lv).getD i 0)).t.length <= maxLen := zOM _ hor
    have hm0 : tkF (mkS ((zDJ lv).getD i 0)) = 0 := zRJ _ hor
    cases hs : zAc l ⟨p, 0⟩ (mkS ((zDJ lv).getD i 0)) with
    | true =>
     have hat : zDc l ⟨p, 0⟩ lv = (zDJ lv).getD i 0 := by
      unfold zDc
      rw [zLf (f := fun op => zAc l ⟨p, 0⟩ (mkS op)) hlt hno hs]
      rfl
     have hp3 : p < l.length := (zAw.1 hs).2.1
     repeat' apply zn
     refine zAa (zzx hnt rfl ?_ (call rfl rfl rfl rfl rfl rfl rfl hnt (hmk) (zzx hnt rfl ?_ (zA9 (us := []) [(900000, 900000)] [] [] rfl rfl rfl rfl (zB2 l hm p _ hm1 hm0 hs) zg (fun _ => rfl) rfl rfl hnt rfl rfl zzi zzi (zzx hnt rfl ?_ (Lex.nil _)))))) ?_
     ·exact zzt
     ·exact zzt
     ·exact zzt
     refine zc (fun hc => ?_) fun hc => ?_
     ·have hfp := hf (p + 1) (by omega) hp3
      unfold Rds at hfp
      have hfw1 := hfw ⟨p + 1, 0⟩
      have hstep : wh = lpF l F lv k1 (.mk ((zDJ lv).getD i 0) zBD [] [e, (F ⟨p + 1, 0⟩).1]) (F ⟨p + 1, 0⟩).2 := by
       rw [hw, lpF, if_neg (fun h => h rfl), if_neg (by rw [hat]; omega), if_neg h3, hat]
      generalize hop : (zDJ lv).getD i 0 = op at *
      generalize hr1 : F ⟨p + 1, 0⟩ = r1 at *
      obtain ⟨e1, s1⟩ := r1
      have hl7 : (Cs.es (eEx e)).len = 7 := by rw [zAp]; rfl
      by_cases he1 : s1.e = 0
      ·have hfp := hfp.1 he1
       obtain ⟨q1, z1⟩ := s1
       have he1 : z1 = 0 := he1
       subst he1
       have hq2 : p + 1 <= q1 := hfw1.1
       have hq3 : q1 <= l.length := hfw1.2 hp3
       have htwo : FnD Tryz.prog 118 [.one (.e (eI op)), .agg (.es (List.take 7 (List.drop 0 (eEx e)))), .agg (.es (eEx e1))] (.agg (.es (eEx (.mk op zBD [] [e, e1])))) := by
        rw [tk7]
        exact zN2 op e e1
       repeat' apply zn
       refine zAK (T := tab) tOk hnt zAO (zA2 (T := tab) rfl ?_ (zU8 [(900000, 900000)] [] [] rfl rfl rfl rfl (hfp) zg rfl rfl rfl rfl rfl zzi zzi (zA2 (T := tab) rfl ?_ (zNH rfl rfl rfl rfl rfl rfl rfl rfl (htwo) (zA2 (T := tab) rfl ?_ (.nil _)))))) (by first | decide +kernel | kernel_rfl) ?_
       ·(dsimp only [zBh]; (repeat' first | exact trivial | assumption | exact Nat.le_of_ble_eq_true rfl | apply And.intro | exact zAm _ _ ‹_› | exact zAi _ _ ‹_› | (intro hh_; have hg_ := hh_; (try simp only [zAr, zAs, zBm, zBp, Bool.and_eq_true, ne_eq, decide_eq_true_eq, decide_eq_false_iff_not] at hg_)) | intro _ | exact rfl | omega))
        all_goals trace_state
       ·(dsimp only [zBh]; (repeat' first | exact trivial | assumption | exact Nat.le_of_ble_eq_true rfl | apply And.intro | exact zAm _ _ ‹_› | exact zAi _ _ ‹_› | (intro hh_; have hg_ := hh_; (try simp only [zAr, zAs, zBm, zBp, Bool.and_eq_true, ne_eq, decide_eq_true_eq, decide_eq_false_iff_not] at hg_)) | intro _ | exact rfl | omega))
        all_goals trace_state
       ·(dsimp only [zBh]; (repeat' first | exact trivial | assumption | exact Nat.le_of_ble_eq_true rfl | apply And.intro | exact zAm _ _ ‹_› | exact zAi _ _ ‹_› | (intro hh_; have hg_ := hh_; (try simp only [zAr, zAs, zBm, zBp, Bool.and_eq_true, ne_eq, decide_eq_true_eq, decide_eq_false_iff_not] at hg_)) | intro _ | exact rfl | omega))
        all_goals trace_state
       refine zAt ?_
       refine ⟨⟨true, .mk op zBD [] [e, e1], q1, k1⟩, ⟨by show p0 <= q1; omega, hq3, by show l.length + 1 <= k1 + q1; omega, hstep⟩, by simp; omega, zAh (ad := []) ⟨zzl, zzl, zzl, zzl, zzl, zzl, zzl, zzl, zzl, trivial⟩ (zAg rfl rfl ⟨rfl, rfl, rfl, rfl, rfl, rfl, trivial, trivial⟩ (zAg rfl rfl (pu7 e _) zm))⟩
      ·have hfp := hfp.2 he1
       rw [zJT he1] at hstep
       subst hstep
       repeat' apply zn
       refine zLE zAO [24, 25] 3 [0, 1] [2] (.cons rfl (zEe tOk hnt rfl (by dsimp only [zBh]; repeat' first | exact trivial | assumption | exact Nat.le_of_ble_eq_true rfl | apply And.intro | exact rfl | omega)) (.cons rfl (zDY tOk hnt rfl (by dsimp only [zBh]; repeat' first | exact trivial | assumption | exact Nat.le_of_ble_eq_true rfl | apply And.intro | exact rfl | omega) rfl rfl) (.cons rfl (zDY tOk hnt rfl (by dsimp only [zBh]; repeat' first | exact trivial | assumption | exact Nat.le_of_ble_eq_true rfl | apply And.intro | exact rfl | omega) rfl rfl) (.nil))) (.pan rfl (zME (us := []) [(900000, 900000)] [] [] rfl rfl rfl rfl (hfp) zg (fun _ => rfl) rfl rfl (fun _ => rfl) default zzi (fun _ => zzi)) (.cons rfl (zDY tOk hnt rfl (by dsimp only [zBh]; repeat' first | exact trivial | assumption | exact Nat.le_of_ble_eq_true rfl | apply And.intro | exact rfl | omega) rfl rfl) (.cons rfl (zDY tOk hnt rfl (by dsimp only [zBh]; repeat' first | exact trivial | assumption | exact Nat.le_of_ble_eq_true rfl | apply And.intro | exact rfl | omega) rfl rfl) (.nil))))) (by decide +kernel) (fun _ => ?_)
       exact ⟨fun h => absurd h he1, fun _ => ⟨rfl, _, fun X => zle⟩⟩
     exact absurd hc Bool.noConfusion
    | false =>
     repeat' apply zn
     refine zAa (zzx hnt rfl ?_ (call rfl rfl rfl rfl rfl rfl rfl hnt (hmk) (zzx hnt rfl ?_ (zA9 (us := []) [(900000, 900000)] [] [] rfl rfl rfl rfl (zCA l p _ hm1 hm0 hs) zg (fun _ => rfl) rfl rfl hnt rfl rfl zzi zzi (zzx hnt rfl ?_ (Lex.nil _)))))) ?_
     ·exact zzt
     ·exact zzt
     ·exact zzt
     refine zc (fun hc => ?_) fun hc => ?_
     ·exact absurd hc Bool.noConfusion
     repeat' first | refine zx ?_ | apply zn
     refine ⟨i + 1, ⟨hlt, fun j hj => by rcases Nat.lt_succ_iff_lt_or_eq.1 hj with h | h; exact hno j h; rw [h]; exact hs⟩, by omega, zAh (ad := []) ⟨zzl, zzl, zzl, zzl, zzl, zzl, zzl, zzl, zzl, zzl, zzl, zzl, trivial⟩ zm⟩
   simp only [zz] at hc
   (try simp only [hlw] at hc)
   (try simp only [zz] at hc)
   have hi : i = (zDJ lv).length := by omega
   subst hi
   have hat : zDc l ⟨p, 0⟩ lv = 0 := by
    unfold zDc
    rw [zJ6 (f := fun op => zAc l ⟨p, 0⟩ (mkS op)) hno]
    rfl
   refine zAt ?_
   have hw2 : wh = (e, ⟨p, 0⟩) := by
    rw [hw, lpF, if_neg (fun h => h rfl), if_pos hat]
   refine ⟨⟨false, e, p, k1 + 1⟩, ⟨hp1, hp2, hk, hw2⟩, by simp, zAh (ad := []) ⟨zzl, zzl, zzl, zzl, zzl, zzl, zzl, zzl, zzl, trivial⟩ zm⟩
  obtain rfl : m = false := hc
  have hw : wh = (e, ⟨p, 0⟩) := hw
  rw [hw]
  refine zAt ?_
  have hl7 : (Cs.es (eEx e)).len = 7 := by rw [zAp]; rfl
  have hl8 : (Cs.es (List.take 7 (List.drop 0 (eEx e)))).len = 7 := by rw [tk7]; exact hl7
  refine zxa ?_
  rw [tk7]
  exact zAb ⟨fun _ => ⟨.inr rfl, _, _, _, rfl, (by (repeat' first | exact trivial | exact Nat.le_of_ble_eq_true rfl | exact Nat.le_of_eq hl7.symm | exact Nat.le_of_eq hl8.symm | apply And.intro)), rfl, fun X => zAh (ad := []) ⟨(tk7 e), ⟨rfl, rfl, rfl, rfl, rfl⟩, trivial⟩ zm⟩, fun h => absurd rfl h⟩
 ·have hf0 := hf0.2 he0
  rw [zJT he0]
  repeat' apply zn
  refine zAE 1 (zzx hnt rfl ?_ (Lex.nil _)) (zME (us := []) [(900000, 900000)] [] [] rfl rfl rfl rfl (hf0) zg (fun _ => rfl) rfl rfl (fun _ => rfl) default zzi (fun _ => zzi)) (fun _ => ?_)
  ·exact zzt
  exact ⟨fun h => absurd h he0, fun _ => ⟨rfl, _, fun X => zle⟩⟩
theorem zUs (l : List Tok) (hm : l.length <= maxLen) (n p0 : Nat) (hp0 : p0 <= l.length) (hf : ∀ p, p0 <= p -> p <= l.length -> Rds l 112 (zAd l n 1) p) : FnR Tryz.prog 104 (gK) (msR l p0) [ptS] ((zAd l (n + 1) 0 ⟨p0, 0⟩).2.e = 0) (.agg (.es (eEx (zAd l (n + 1) 0 ⟨p0, 0⟩).1))) (msR l (zAd l (n + 1) 0 ⟨p0, 0⟩).2.p) (msR l) (chS (zAd l (n + 1) 0 ⟨p0, 0⟩).2) := by
 refine zBG (T := tab) tOk Tryz.func104 rfl (by kernel_rfl) (by simp [Tryz.ntmps104]) rfl rfl (fun _ => rfl) ?_
 intro X hX
 have hnt : X.nt = 8 := hX
 clear hX
 have hc := zFl l hm p0 0 (by decide) (by decide) (by decide) 112 (zAd l n 1) (fun s h => zCd h n _) (zA4 l n _) hp0 hf
 have hE : zAd l (n + 1) 0 ⟨p0, 0⟩ = lpF l (zAd l n 1) 0 (l.length + 1) (zAd l n 1 ⟨p0, 0⟩).1 (zAd l n 1 ⟨p0, 0⟩).2 := by
  rw [zAd]
  simp
 rw [<-hE] at hc
 generalize zAd l (n + 1) 0 ⟨p0, 0⟩ = w at *
 obtain ⟨e, s⟩ := w
 have hl7 : (Cs.es (eEx e)).len = 7 := by rw [zAp]; rfl
 repeat' first | refine zx ?_ | apply zn
 by_cases he : s.e = 0
 ·have hc := hc.1 he
  repeat' apply zn
  refine zAa (zzx hnt rfl ?_ (zA9 [(900000, 900000)] [] [] rfl rfl rfl rfl (hc) (by repeat' first | exact .nil | refine .lent rfl rfl rfl ?_ | refine zB1 rfl ?_ | refine .data rfl ?_) (zCo rfl) rfl rfl hnt rfl rfl zzi zzi (zzx hnt rfl ?_ (Lex.nil _)))) ?_
  ·exact zzt
  ·exact zzt
  exact zAb ⟨fun _ => ⟨.inr rfl, _, _, _, rfl, (by (repeat' first | exact trivial | exact Nat.le_of_ble_eq_true rfl | exact Nat.le_of_eq hl7.symm | apply And.intro)), rfl, fun X => zAh (ad := []) ⟨(tk7 e), ⟨rfl, rfl, rfl, rfl, rfl⟩, trivial⟩ zm⟩, fun h => absurd he h⟩
 have hc := hc.2 he
 repeat' apply zn
 refine zAE 4 (zzx hnt rfl ?_ (Lex.nil _)) (zFn [(900000, 900000)] [] [] rfl rfl rfl rfl (hc) (by repeat' first | exact .nil | refine .lent rfl rfl rfl ?_ | refine zB1 rfl ?_ | refine .data rfl ?_) (zCo rfl) rfl rfl (fun _ => rfl) default zzi (fun _ => zzi)) (fun _ => ?_)
 ·exact zzt
 exact ⟨fun h => absurd h he, fun _ => ⟨rfl, _, fun X => zle⟩⟩
theorem zUr (l : List Tok) (hm : l.length <= maxLen) (n p0 : Nat) (hp0 : p0 <= l.length) (hf : ∀ p, p0 <= p -> p <= l.length -> Rds l 119 (zAd l n 2) p) : FnR Tryz.prog 112 (gK) (msR l p0) [ptS] ((zAd l (n + 1) 1 ⟨p0, 0⟩).2.e = 0) (.agg (.es (eEx (zAd l (n + 1) 1 ⟨p0, 0⟩).1))) (msR l (zAd l (n + 1) 1 ⟨p0, 0⟩).2.p) (msR l) (chS (zAd l (n + 1) 1 ⟨p0, 0⟩).2) := by
 refine zBG (T := tab) tOk Tryz.func112 rfl (by kernel_rfl) (by simp [Tryz.ntmps112]) rfl rfl (fun _ => rfl) ?_
 intro X hX
 have hnt : X.nt = 8 := hX
 clear hX
 have hc := zFl l hm p0 1 (by decide) (by decide) (by decide) 119 (zAd l n 2) (fun s h => zCd h n _) (zA4 l n _) hp0 hf
 have hE : zAd l (n + 1) 1 ⟨p0, 0⟩ = lpF l (zAd l n 2) 1 (l.length + 1) (zAd l n 2 ⟨p0, 0⟩).1 (zAd l n 2 ⟨p0, 0⟩).2 := by
  rw [zAd]
  simp
 rw [<-hE] at hc
 generalize zAd l (n + 1) 1 ⟨p0, 0⟩ = w at *
 obtain ⟨e, s⟩ := w
 have hl7 : (Cs.es (eEx e)).len = 7 := by rw [zAp]; rfl
 repeat' first | refine zx ?_ | apply zn
 by_cases he : s.e = 0
 ·have hc := hc.1 he
  repeat' apply zn
  refine zAa (zzx hnt rfl ?_ (zA9 [(900000, 900000)] [] [] rfl rfl rfl rfl (hc) (by repeat' first | exact .nil | refine .lent rfl rfl rfl ?_ | refine zB1 rfl ?_ | refine .data rfl ?_) (zCo rfl) rfl rfl hnt rfl rfl zzi zzi (zzx hnt rfl ?_ (Lex.nil _)))) ?_
  ·exact zzt
  ·exact zzt
  exact zAb ⟨fun _ => ⟨.inr rfl, _, _, _, rfl, (by (repeat' first | exact trivial | exact Nat.le_of_ble_eq_true rfl | exact Nat.le_of_eq hl7.symm | apply And.intro)), rfl, fun X => zAh (ad := []) ⟨(tk7 e), ⟨rfl, rfl, rfl, rfl, rfl⟩, trivial⟩ zm⟩, fun h => absurd he h⟩
 have hc := hc.2 he
 repeat' apply zn
 refine zAE 4 (zzx hnt rfl ?_ (Lex.nil _)) (zFn [(900000, 900000)] [] [] rfl rfl rfl rfl (hc) (by repeat' first | exact .nil | refine .lent rfl rfl rfl ?_ | refine zB1 rfl ?_ | refine .data rfl ?_) (zCo rfl) rfl rfl (fun _ => rfl) default zzi (fun _ => zzi)) (fun _ => ?_)
 ·exact zzt
 exact ⟨fun h => absurd h he, fun _ => ⟨rfl, _, fun X => zle⟩⟩
theorem zUo (l : List Tok) (hm : l.length <= maxLen) (n p0 : Nat) (hp0 : p0 <= l.length) (hf : ∀ p, p0 <= p -> p <= l.length -> Rds l 126 (zAd l n 5) p) : FnR Tryz.prog 124 (gK) (msR l p0) [ptS] ((zAd l (n + 1) 4 ⟨p0, 0⟩).2.e = 0) (.agg (.es (eEx (zAd l (n + 1) 4 ⟨p0, 0⟩).1))) (msR l (zAd l (n + 1) 4 ⟨p0, 0⟩).2.p) (msR l) (chS (zAd l (n + 1) 4 ⟨p0, 0⟩).2) := by
 refine zBG (T := tab) tOk Tryz.func124 rfl (by kernel_rfl) (by simp [Tryz.ntmps124]) rfl rfl (fun _ => rfl) ?_
 intro X hX
 have hnt : X.nt = 8 := hX
 clear hX
 have hc := zFl l hm p0 4 (by decide) (by decide) (by decide) 126 (zAd l n 5) (fun s h => zCd h n _) (zA4 l n _) hp0 hf
 have hE : zAd l (n + 1) 4 ⟨p0, 0⟩ = lpF l (zAd l n 5) 4 (l.length + 1) (zAd l n 5 ⟨p0, 0⟩).1 (zAd l n 5 ⟨p0, 0⟩).2 := by
  rw [zAd]
  simp
 rw [<-hE] at hc
 generalize zAd l (n + 1) 4 ⟨p0, 0⟩ = w at *
 obtain ⟨e, s⟩ := w
 have hl7 : (Cs.es (eEx e)).len = 7 := by rw [zAp]; rfl
 repeat' first | refine zx ?_ | apply zn
 by_cases he : s.e = 0
 ·have hc := hc.1 he
  repeat' apply zn
  refine zAa (zzx hnt rfl ?_ (zA9 [(900000, 900000)] [] [] rfl rfl rfl rfl (hc) (by repeat' first | exact .nil | refine .lent rfl rfl rfl ?_ | refine zB1 rfl ?_ | refine .data rfl ?_) (zCo rfl) rfl rfl hnt rfl rfl zzi zzi (zzx hnt rfl ?_ (Lex.nil _)))) ?_
  ·exact zzt
  ·exact zzt
  exact zAb ⟨fun _ => ⟨.inr rfl, _, _, _, rfl, (by (repeat' first | exact trivial | exact Nat.le_of_ble_eq_true rfl | exact Nat.le_of_eq hl7.symm | apply And.intro)), rfl, fun X => zAh (ad := []) ⟨(tk7 e), ⟨rfl, rfl, rfl, rfl, rfl⟩, trivial⟩ zm⟩, fun h => absurd he h⟩
 have hc := hc.2 he
 repeat' apply zn
 refine zAE 4 (zzx hnt rfl ?_ (Lex.nil _)) (zFn [(900000, 900000)] [] [] rfl rfl rfl rfl (hc) (by repeat' first | exact .nil | refine .lent rfl rfl rfl ?_ | refine zB1 rfl ?_ | refine .data rfl ?_) (zCo rfl) rfl rfl (fun _ => rfl) default zzi (fun _ => zzi)) (fun _ => ?_)
 ·exact zzt
 exact ⟨fun h => absurd h he, fun _ => ⟨rfl, _, fun X => zle⟩⟩
theorem zUn (l : List Tok) (hm : l.length <= maxLen) (n p0 : Nat) (hp0 : p0 <= l.length) (hf : ∀ p, p0 <= p -> p <= l.length -> Rds l 128 (zAd l n 6) p) : FnR Tryz.prog 126 (gK) (msR l p0) [ptS] ((zAd l (n + 1) 5 ⟨p0, 0⟩).2.e = 0) (.agg (.es (eEx (zAd l (n + 1) 5 ⟨p0, 0⟩).1))) (msR l (zAd l (n + 1) 5 ⟨p0, 0⟩).2.p) (msR l) (chS (zAd l (n + 1) 5 ⟨p0, 0⟩).2) := by
 refine zBG (T := tab) tOk Tryz.func126 rfl (by kernel_rfl) (by simp [Tryz.ntmps126]) rfl rfl (fun _ => rfl) ?_
 intro X hX
 have hnt : X.nt = 8 := hX
 clear hX
 have hc := zFl l hm p0 5 (by decide) (by decide) (by decide) 128 (zAd l n 6) (fun s h => zCd h n _) (zA4 l n _) hp0 hf
 have hE : zAd l (n + 1) 5 ⟨p0, 0⟩ = lpF l (zAd l n 6) 5 (l.length + 1) (zAd l n 6 ⟨p0, 0⟩).1 (zAd l n 6 ⟨p0, 0⟩).2 := by
  rw [zAd]
  simp
 rw [<-hE] at hc
 generalize zAd l (n + 1) 5 ⟨p0, 0⟩ = w at *
 obtain ⟨e, s⟩ := w
 have hl7 : (Cs.es (eEx e)).len = 7 := by rw [zAp]; rfl
 repeat' first | refine zx ?_ | apply zn
 by_cases he : s.e = 0
 ·have hc := hc.1 he
  repeat' apply zn
  refine zAa (zzx hnt rfl ?_ (zA9 [(900000, 900000)] [] [] rfl rfl rfl rfl (hc) (by repeat' first | exact .nil | refine .lent rfl rfl rfl ?_ | refine zB1 rfl ?_ | refine .data rfl ?_) (zCo rfl) rfl rfl hnt rfl rfl zzi zzi (zzx hnt rfl ?_ (Lex.nil _)))) ?_
  ·exact zzt
  ·exact zzt
  exact zAb ⟨fun _ => ⟨.inr rfl, _, _, _, rfl, (by (repeat' first | exact trivial | exact Nat.le_of_ble_eq_true rfl | exact Nat.le_of_eq hl7.symm | apply And.intro)), rfl, fun X => zAh (ad := []) ⟨(tk7 e), ⟨rfl, rfl, rfl, rfl, rfl⟩, trivial⟩ zm⟩, fun h => absurd he h⟩
 have hc := hc.2 he
 repeat' apply zn
 refine zAE 4 (zzx hnt rfl ?_ (Lex.nil _)) (zFn [(900000, 900000)] [] [] rfl rfl rfl rfl (hc) (by repeat' first | exact .nil | refine .lent rfl rfl rfl ?_ | refine zB1 rfl ?_ | refine .data rfl ?_) (zCo rfl) rfl rfl (fun _ => rfl) default zzi (fun _ => zzi)) (fun _ => ?_)
 ·exact zzt
 exact ⟨fun h => absurd h he, fun _ => ⟨rfl, _, fun X => zle⟩⟩
theorem zUm (l : List Tok) (hm : l.length <= maxLen) (n p0 : Nat) (hp0 : p0 <= l.length) (hf : ∀ p, p0 <= p -> p <= l.length -> Rds l 129 (zAd l n 7) p) : FnR Tryz.prog 128 (gK) (msR l p0) [ptS] ((zAd l (n + 1) 6 ⟨p0, 0⟩).2.e = 0) (.agg (.es (eEx (zAd l (n + 1) 6 ⟨p0, 0⟩).1))) (msR l (zAd l (n + 1) 6 ⟨p0, 0⟩).2.p) (msR l) (chS (zAd l (n + 1) 6 ⟨p0, 0⟩).2) := by
 refine zBG (T := tab) tOk Tryz.func128 rfl (by kernel_rfl) (by simp [Tryz.ntmps128]) rfl rfl (fun _ => rfl) ?_
 intro X hX
 have hnt : X.nt = 8 := hX
 clear hX
 have hc := zFl l hm p0 6 (by decide) (by decide) (by decide) 129 (zAd l n 7) (fun s h => zCd h n _) (zA4 l n _) hp0 hf
 have hE : zAd l (n + 1) 6 ⟨p0, 0⟩ = lpF l (zAd l n 7) 6 (l.length + 1) (zAd l n 7 ⟨p0, 0⟩).1 (zAd l n 7 ⟨p0, 0⟩).2 := by
  rw [zAd]
  simp
 rw [<-hE] at hc
 generalize zAd l (n + 1) 6 ⟨p0, 0⟩ = w at *
 obtain ⟨e, s⟩ := w
 have hl7 : (Cs.es (eEx e)).len = 7 := by rw [zAp]; rfl
 repeat' first | refine zx ?_ | apply zn
 by_cases he : s.e = 0
 ·have hc := hc.1 he
  repeat' apply zn
  refine zAa (zzx hnt rfl ?_ (zA9 [(900000, 900000)] [] [] rfl rfl rfl rfl (hc) (by repeat' first | exact .nil | refine .lent rfl rfl rfl ?_ | refine zB1 rfl ?_ | refine .data rfl ?_) (zCo rfl) rfl rfl hnt rfl rfl zzi zzi (zzx hnt rfl ?_ (Lex.nil _)))) ?_
  ·exact zzt
  ·exact zzt
  exact zAb ⟨fun _ => ⟨.inr rfl, _, _, _, rfl, (by (repeat' first | exact trivial | exact Nat.le_of_ble_eq_true rfl | exact Nat.le_of_eq hl7.symm | apply And.intro)), rfl, fun X => zAh (ad := []) ⟨(tk7 e), ⟨rfl, rfl, rfl, rfl, rfl⟩, trivial⟩ zm⟩, fun h => absurd he h⟩
 have hc := hc.2 he
 repeat' apply zn
 refine zAE 4 (zzx hnt rfl ?_ (Lex.nil _)) (zFn [(900000, 900000)] [] [] rfl rfl rfl rfl (hc) (by repeat' first | exact .nil | refine .lent rfl rfl rfl ?_ | refine zB1 rfl ?_ | refine .data rfl ?_) (zCo rfl) rfl rfl (fun _ => rfl) default zzi (fun _ => zzi)) (fun _ => ?_)
 ·exact zzt
 exact ⟨fun h => absurd h he, fun _ => ⟨rfl, _, fun X => zle⟩⟩
theorem zUq (l : List Tok) (hm : l.length <= maxLen) (n p0 : Nat) (hp0 : p0 <= l.length) (h2 : ∀ p, p0 < p -> p <= l.length -> Rds l 119 (zAd l n 2) p) (h3 : Rds l 123 (zAd l n 3) p0) : FnR Tryz.prog 119 (gK) (msR l p0) [ptS] ((zAd l (n + 1) 2 ⟨p0, 0⟩).2.e = 0) (.agg (.es (eEx (zAd l (n + 1) 2 ⟨p0, 0⟩).1))) (msR l (zAd l (n + 1) 2 ⟨p0, 0⟩).2.p) (msR l) (chS (zAd l (n + 1) 2 ⟨p0, 0⟩).2) := by
 refine zBG (T := tab) tOk Tryz.func119 rfl (by kernel_rfl) (by simp [Tryz.ntmps119]) rfl rfl (fun _ => rfl) ?_
 intro X hX
 have hnt : X.nt = 12 := hX
 clear hX
 repeat' first | refine zx ?_ | apply zn
 have hwd := zBx [78, 79, 84]
 cases hs : zAc l ⟨p0, 0⟩ zIe with
 | true =>
  have hp := (zAw.1 hs).2.1
  have hE : zAd l (n + 1) 2 ⟨p0, 0⟩ = (.mk 4 zBD [] [(zAd l n 2 ⟨p0 + 1, 0⟩).1], (zAd l n 2 ⟨p0 + 1, 0⟩).2) := by
   rw [zAd]
   simp [hs, zA6 hs]
  rw [hE]
  have hz := h2 (p0 + 1) (Nat.lt_succ_self _) hp
  unfold Rds at hz
  generalize zAd l n 2 ⟨p0 + 1, 0⟩ = w at *
  obtain ⟨e, s⟩ := w
  have w7 : (Cs.es (eEx e)).len = 7 := by rw [zAp]; rfl
  repeat' apply zn
  refine zAa (zzx hnt rfl ?_ (call rfl rfl rfl rfl rfl rfl rfl hnt (hwd) (zzx hnt rfl ?_ (zA9 (us := []) [(900000, 900000)] [] [] rfl rfl rfl rfl (zB2 l hm p0 zIe (Nat.le_of_ble_eq_true rfl) (by decide) hs) zg (fun _ => rfl) rfl rfl hnt rfl rfl zzi zzi (zzx hnt rfl ?_ (Lex.nil _)))))) ?_
  ·exact zzt
  ·exact zzt
  ·exact zzt
  refine zc (fun hc => ?_) fun hc => ?_
  ·by_cases he : s.e = 0
   ·have hz := hz.1 he
    refine zH [(900000, 900000)] [] [] hz ?_
    refine zAq (zDK 2 rfl rfl rfl) ?_
    exact zAb ⟨fun _ => ⟨.inr rfl, _, _, _, rfl, (by (repeat' first | exact trivial | exact Nat.le_of_ble_eq_true rfl | exact Nat.le_of_eq w7.symm | apply And.intro)), rfl, fun X => zAh (ad := []) ⟨(by rw [zBZ]; rfl), ⟨rfl, rfl, rfl, rfl, rfl⟩, trivial⟩ zm⟩, fun h => absurd he h⟩
   have hz := hz.2 he
   refine zP 1 [(900000, 900000)] [] [] hz fun _ => ?_
   exact ⟨fun h => absurd h he, fun _ => ⟨rfl, _, fun X => zle⟩⟩
  exact absurd hc Bool.noConfusion
 | false =>
  have hE : zAd l (n + 1) 2 ⟨p0, 0⟩ = zAd l n 3 ⟨p0, 0⟩ := by
   rw [zAd]
   simp [hs]
  rw [hE]
  have hz := h3
  unfold Rds at hz
  generalize (zAd l n 3) ⟨p0, 0⟩ = w at *
  obtain ⟨e, s⟩ := w
  have w7 : (Cs.es (eEx e)).len = 7 := by rw [zAp]; rfl
  repeat' apply zn
  refine zAa (zzx hnt rfl ?_ (call rfl rfl rfl rfl rfl rfl rfl hnt (hwd) (zzx hnt rfl ?_ (zA9 (us := []) [(900000, 900000)] [] [] rfl rfl rfl rfl (zCA l p0 zIe (Nat.le_of_ble_eq_true rfl) (by decide) hs) zg (fun _ => rfl) rfl rfl hnt rfl rfl zzi zzi (zzx hnt rfl ?_ (Lex.nil _)))))) ?_
  ·exact zzt
  ·exact zzt
  ·exact zzt
  refine zc (fun hc => ?_) fun hc => ?_
  ·exact absurd hc Bool.noConfusion
  by_cases he : s.e = 0
  ·have hz := hz.1 he
   refine zH [(900000, 900000)] [] [] hz ?_
   exact zAb ⟨fun _ => ⟨.inr rfl, _, _, _, rfl, (by (repeat' first | exact trivial | exact Nat.le_of_ble_eq_true rfl | exact Nat.le_of_eq w7.symm | apply And.intro)), rfl, fun X => zAh (ad := []) ⟨(tk7 e), ⟨rfl, rfl, rfl, rfl, rfl⟩, trivial⟩ zm⟩, fun h => absurd he h⟩
  have hz := hz.2 he
  refine zP 1 [(900000, 900000)] [] [] hz fun _ => ?_
  exact ⟨fun h => absurd h he, fun _ => ⟨rfl, _, fun X => zle⟩⟩
theorem zUl (l : List Tok) (hm : l.length <= maxLen) (n p0 : Nat) (hp0 : p0 <= l.length) (h2 : ∀ p, p0 < p -> p <= l.length -> Rds l 129 (zAd l n 7) p) (h3 : Rds l 130 (zA3 l (zAd l n 0)) p0) : FnR Tryz.prog 129 (gK) (msR l p0) [ptS] ((zAd l (n + 1) 7 ⟨p0, 0⟩).2.e = 0) (.agg (.es (eEx (zAd l (n + 1) 7 ⟨p0, 0⟩).1))) (msR l (zAd l (n + 1) 7 ⟨p0, 0⟩).2.p) (msR l) (chS (zAd l (n + 1) 7 ⟨p0, 0⟩).2) := by
 refine zBG (T := tab) tOk Tryz.func129 rfl (by kernel_rfl) (by simp [Tryz.ntmps129]) rfl rfl (fun _ => rfl) ?_
 intro X hX
 have hnt : X.nt = 12 := hX
 clear hX
 repeat' first | refine zx ?_ | apply zn
 have hwd := zAN [45]
 cases hs : zAc l ⟨p0, 0⟩ zGx with
 | true =>
  have hp := (zAw.1 hs).2.1
  have hE : zAd l (n + 1) 7 ⟨p0, 0⟩ = (.mk 3 zBD [] [(zAd l n 7 ⟨p0 + 1, 0⟩).1], (zAd l n 7 ⟨p0 + 1, 0⟩).2) := by
   rw [zAd]
   simp [hs, zA6 hs]
  rw [hE]
  have hz := h2 (p0 + 1) (Nat.lt_succ_self _) hp
  unfold Rds at hz
  generalize zAd l n 7 ⟨p0 + 1, 0⟩ = w at *
  obtain ⟨e, s⟩ := w
  have w7 : (Cs.es (eEx e)).len = 7 := by rw [zAp]; rfl
  repeat' apply zn
  refine zAa (zzx hnt rfl ?_ (call rfl rfl rfl rfl rfl rfl rfl hnt (hwd) (zzx hnt rfl ?_ (zA9 (us := []) [(900000, 900000)] [] [] rfl rfl rfl rfl (zB2 l hm p0 zGx (Nat.le_of_ble_eq_true rfl) (by decide) hs) zg (fun _ => rfl) rfl rfl hnt rfl rfl zzi zzi (zzx hnt rfl ?_ (Lex.nil _)))))) ?_
  ·exact zzt
  ·exact zzt
  ·exact zzt
  refine zc (fun hc => ?_) fun hc => ?_
  ·by_cases he : s.e = 0
   ·have hz := hz.1 he
    refine zH [(900000, 900000)] [] [] hz ?_
    refine zAq (zDK 2 rfl rfl rfl) ?_
    exact zAb ⟨fun _ => ⟨.inr rfl, _, _, _, rfl, (by (repeat' first | exact trivial | exact Nat.le_of_ble_eq_true rfl | exact Nat.le_of_eq w7.symm | apply And.intro)), rfl, fun X => zAh (ad := []) ⟨(by rw [zBZ]; rfl), ⟨rfl, rfl, rfl, rfl, rfl⟩, trivial⟩ zm⟩, fun h => absurd he h⟩
   have hz := hz.2 he
   refine zP 1 [(900000, 900000)] [] [] hz fun _ => ?_
   exact ⟨fun h => absurd h he, fun _ => ⟨rfl, _, fun X => zle⟩⟩
  exact absurd hc Bool.noConfusion
 | false =>
  have hE : zAd l (n + 1) 7 ⟨p0, 0⟩ = zA3 l (zAd l n 0) ⟨p0, 0⟩ := by
   rw [zAd]
   simp [hs]
  rw [hE]
  have hz := h3
  unfold Rds at hz
  generalize (zA3 l (zAd l n 0)) ⟨p0, 0⟩ = w at *
  obtain ⟨e, s⟩ := w
  have w7 : (Cs.es (eEx e)).len = 7 := by rw [zAp]; rfl
  repeat' apply zn
  refine zAa (zzx hnt rfl ?_ (call rfl rfl rfl rfl rfl rfl rfl hnt (hwd) (zzx hnt rfl ?_ (zA9 (us := []) [(900000, 900000)] [] [] rfl rfl rfl rfl (zCA l p0 zGx (Nat.le_of_ble_eq_true rfl) (by decide) hs) zg (fun _ => rfl) rfl rfl hnt rfl rfl zzi zzi (zzx hnt rfl ?_ (Lex.nil _)))))) ?_
  ·exact zzt
  ·exact zzt
  ·exact zzt
  refine zc (fun hc => ?_) fun hc => ?_
  ·exact absurd hc Bool.noConfusion
  by_cases he : s.e = 0
  ·have hz := hz.1 he
   refine zH [(900000, 900000)] [] [] hz ?_
   exact zAb ⟨fun _ => ⟨.inr rfl, _, _, _, rfl, (by (repeat' first | exact trivial | exact Nat.le_of_ble_eq_true rfl | exact Nat.le_of_eq w7.symm | apply And.intro)), rfl, fun X => zAh (ad := []) ⟨(tk7 e), ⟨rfl, rfl, rfl, rfl, rfl⟩, trivial⟩ zm⟩, fun h => absurd he h⟩
  have hz := hz.2 he
  refine zP 1 [(900000, 900000)] [] [] hz fun _ => ?_
  exact ⟨fun h => absurd h he, fun _ => ⟨rfl, _, fun X => zle⟩⟩
theorem zXi (i : Nat) (h : i < 6) : (zDJ 3).getD i 0 = ((9 + i : Nat) : Int) := by
 rcases (by omega : i = 0 \/ i = 1 \/ i = 2 \/ i = 3 \/ i = 4 \/ i = 5) with rfl | rfl | rfl | rfl | rfl | rfl <;> rfl
theorem zUp (l : List Tok) (hm : l.length <= maxLen) (n p0 : Nat) (hp0 : p0 <= l.length) (hf : ∀ p, p0 <= p -> p <= l.length -> Rds l 124 (zAd l n 4) p) : FnR Tryz.prog 123 (gK) (msR l p0) [ptS] ((zAd l (n + 1) 3 ⟨p0, 0⟩).2.e = 0) (.agg (.es (eEx (zAd l (n + 1) 3 ⟨p0, 0⟩).1))) (msR l (zAd l (n + 1) 3 ⟨p0, 0⟩).2.p) (msR l) (chS (zAd l (n + 1) 3 ⟨p0, 0⟩).2) := by
 refine zBG (T := tab) tOk Tryz.func123 rfl (by kernel_rfl) (by simp [Tryz.ntmps123]) rfl rfl (fun _ => rfl) ?_
 intro X hX
 have hnt : X.nt = 30 := hX
 clear hX
 have hE : zAd l (n + 1) 3 ⟨p0, 0⟩ = if zAc l (zAd l n 4 ⟨p0, 0⟩).2 zCS = true then (.mk 17 zBD [] [(zAd l n 4 ⟨p0, 0⟩).1], zAk l (zAd l n 4 ⟨p0, 0⟩).2 [zCS, zB8]) else lpF l (zAd l n 4) 3 (l.length + 1) (zAd l n 4 ⟨p0, 0⟩).1 (zAd l n 4 ⟨p0, 0⟩).2 := by
  rw [zAd]
  simp
 rw [hE]
 clear hE
 have hfw0 := zA4 l n 4 ⟨p0, 0⟩
 have hz := hf p0 (Nat.le_refl _) hp0
 unfold Rds at hz
 generalize hr0 : zAd l n 4 ⟨p0, 0⟩ = r0 at *
 generalize hwh : (if zAc l r0.2 zCS = true then (Ex.mk 17 zBD [] [r0.1], zAk l r0.2 [zCS, zB8]) else lpF l (zAd l n 4) 3 (l.length + 1) r0.1 r0.2) = wh at *
 obtain ⟨e0, s0⟩ := r0
 have hwh : (if zAc l s0 zCS = true then (Ex.mk 17 zBD [] [e0], zAk l s0 [zCS, zB8]) else lpF l (zAd l n 4) 3 (l.length + 1) e0 s0) = wh := hwh
 have w7 : (Cs.es (eEx e0)).len = 7 := by rw [zAp]; rfl
 repeat' first | refine zx ?_ | apply zn
 by_cases he : s0.e = 0
 ·have hz := hz.1 he
  obtain ⟨q, z⟩ := s0
  have he : z = 0 := he
  subst he
  have hq : q <= l.length := hfw0.2 hp0
  have hq0 : p0 <= q := hfw0.1
  refine zH [(900000, 900000)] [] [] hz ?_
  have hw1 := zBx [73, 83]
  cases hs : zAc l ⟨q, 0⟩ zCS with
  | true =>
   have hp := (zAw.1 hs).2.1
   have hE : zAk l ⟨q, 0⟩ [zCS, zB8] = zAk l ⟨q + 1, 0⟩ [zB8] := by rw [zAQ, if_pos hs]
   rw [if_pos hs, hE] at hwh
   subst hwh
   repeat' apply zn
   refine zAa (zzx hnt rfl ?_ (call rfl rfl rfl rfl rfl rfl rfl hnt (hw1) (zzx hnt rfl ?_ (zA9 (us := []) [(900000, 900000)] [] [] rfl rfl rfl rfl (zB2 l hm q zCS (Nat.le_of_ble_eq_true rfl) (by decide) hs) zg (fun _ => rfl) rfl rfl hnt rfl rfl zzi zzi (zzx hnt rfl ?_ (Lex.nil _)))))) ?_
   ·exact zzt
   ·exact zzt
   ·exact zzt
   refine zc (fun hc => ?_) fun hc => ?_
   ·have hw2 := zBx [78, 85, 76, 76]
    have hwt := zEI l hm (q + 1) zB8 (Nat.le_of_ble_eq_true rfl) (by decide)
    generalize zAk l ⟨q + 1, 0⟩ [zB8] = s2 at *
    by_cases he : s2.e = 0
    ·repeat' apply zn
     refine zAa (zzx hnt rfl ?_ (call rfl rfl rfl rfl rfl rfl rfl hnt (hw2) (zzx hnt rfl ?_ (zA9 (us := []) [(900000, 900000)] [] [] rfl rfl rfl rfl ((hwt.1 he)) zg (fun _ => rfl) rfl rfl hnt rfl rfl zzi zzi (zzx hnt rfl ?_ (Lex.nil _)))))) ?_
     ·exact zzt
     ·exact zzt
     ·exact zzt
     have w8 : (Cs.es (List.take 7 (List.drop 0 (eEx e0)))).len = 7 := by rw [tk7]; exact w7
     refine zxa ?_
     refine zAq (zDK 2 rfl rfl rfl) ?_
     rw [tk7]
     exact zAb ⟨fun _ => ⟨.inr rfl, _, _, _, rfl, (by (repeat' first | exact trivial | exact Nat.le_of_ble_eq_true rfl | exact Nat.le_of_eq w7.symm | apply And.intro)), rfl, fun X => zAh (ad := []) ⟨(by rw [zBZ]; rfl), ⟨rfl, rfl, rfl, rfl, rfl⟩, trivial⟩ zm⟩, fun h => absurd he h⟩
    repeat' apply zn
    refine zAE 2 (zzx hnt rfl ?_ (call rfl rfl rfl rfl rfl rfl rfl hnt (hw2) (zzx hnt rfl ?_ (Lex.nil _)))) (zFn (us := []) [(900000, 900000)] [] [] rfl rfl rfl rfl (hwt.2 he) zg (fun _ => rfl) rfl rfl (fun _ => rfl) default zzi (fun _ => zzi)) (fun _ => ?_)
    ·exact zzt
    ·exact zzt
    exact ⟨fun h => absurd h he, fun _ => ⟨rfl, _, fun X => zle⟩⟩
   exact absurd hc Bool.noConfusion
  | false =>
   rw [if_neg (by rw [hs]; exact Bool.noConfusion)] at hwh
   rw [lpF, if_neg (fun h => h rfl)] at hwh
   repeat' apply zn
   refine zAa (zzx hnt rfl ?_ (call rfl rfl rfl rfl rfl rfl rfl hnt (hw1) (zzx hnt rfl ?_ (zA9 (us := []) [(900000, 900000)] [] [] rfl rfl rfl rfl (zCA l q zCS (Nat.le_of_ble_eq_true rfl) (by decide) hs) zg (fun _ => rfl) rfl rfl hnt rfl rfl zzi zzi (zzx hnt rfl ?_ (Lex.nil _)))))) ?_
   ·exact zzt
   ·exact zzt
   ·exact zzt
   refine zc (fun hc => ?_) fun hc => ?_
   ·exact absurd hc Bool.noConfusion
   repeat' first | refine zx ?_ | apply zn
   repeat' apply zn
   refine zAx (σ := Nat) (fun i => St.of [(0, ptS), (2, .one (.ptr 2 0 0)), (3, .one (.ptr 3 0 0)), (4, .one (.e (eI ((9 + i : Nat) : Int)))), (900000, ptS), ((1000000 + 5), .one (.eptr fsE)), ((1000000 + 6), .one (.eptr acE))] [(2, ⟨0, .box (.ds [.e (eI 0), .e (eI 0), .e (eI 0), .e (eQ 0), .e (eT []), .e (eT []), .nil]), 0⟩), (3, ⟨0, .box (.es (eEx e0)), 0⟩), (900000, ⟨0, .box (.es (eRd l q)), 0⟩)]) (fun i => i <= 6 /\ ∀ j, j < i -> zAc l ⟨q, 0⟩ (mkS ((zDJ 3).getD j 0)) = false) (fun i => 6 - i) (0) (zAh (ad := []) ⟨zzl, zzl, zzl, zzl, zzl, zzl, zzl, trivial⟩ zm) ⟨Nat.zero_le _, fun j hj => absurd hj (Nat.not_lt_zero _)⟩ ?_
   rintro i ⟨il, hno⟩
   repeat' first | refine zx ?_ | fail
   refine zc (fun hc => ?_) fun hc => ?_
   ·simp only [zz] at hc
    have hlt : i < 6 := by omega
    have hop := zXi i hlt
    have hor : (5 <= ((9 + i : Nat) : Int) /\ ((9 + i : Nat) : Int) <= 16) \/ ((9 + i : Nat) : Int) = 19 := by omega
    have hmk := zOO ((9 + i : Nat) : Int) hor
    have hm1 := zOM _ hor
    have hm0 := zRJ _ hor
    cases hs2 : zAc l ⟨q, 0⟩ (mkS ((9 + i : Nat) : Int)) with
    | true =>
     have hat : zDc l ⟨q, 0⟩ 3 = ((9 + i : Nat) : Int) := by
      unfold zDc
      rw [zLf (ops := zDJ 3) (f := fun op => zAc l ⟨q, 0⟩ (mkS op)) (i := i) hlt hno (by rw [hop]; exact hs2), hop]
      rfl
     have hp3 : q < l.length := (zAw.1 hs2).2.1
     rw [hat, if_neg (by omega), if_pos rfl] at hwh
     generalize ((9 + i : Nat) : Int) = op at *
     repeat' apply zn
     refine zAa (zzx hnt rfl ?_ (call rfl rfl rfl rfl rfl rfl rfl hnt (hmk) (zzx hnt rfl ?_ (zA9 (us := []) [(900000, 900000)] [] [] rfl rfl rfl rfl (zB2 l hm q _ hm1 hm0 hs2) zg (fun _ => rfl) rfl rfl hnt rfl rfl zzi zzi (zzx hnt rfl ?_ (Lex.nil _)))))) ?_
     ·exact zzt
     ·exact zzt
     ·exact zzt
     refine zc (fun hc => ?_) fun hc => ?_
     ·have hfp := hf (q + 1) (by omega) hp3
      unfold Rds at hfp
      generalize zAd l n 4 ⟨q + 1, 0⟩ = r1 at *
      obtain ⟨e1, s1⟩ := r1
      subst hwh
      by_cases he : s1.e = 0
      ·have hfp := hfp.1 he
       have htwo : FnD Tryz.prog 118 [.one (.e (eI op)), .agg (.es (List.take 7 (List.drop 0 (eEx e0)))), .agg (.es (eEx e1))] (.agg (.es (eEx (.mk op zBD [] [e0, e1])))) := by
        rw [tk7]
        exact zN2 op e0 e1
       have w9 : (Cs.es (eEx (.mk op zBD [] [e0, e1]))).len = 7 := by rw [zAp]; rfl
       repeat' apply zn
       refine zAK (T := tab) tOk hnt zAO (zA2 (T := tab) rfl ?_ (zMF [(900000, 900000)] [] [] rfl rfl rfl rfl (hfp) zg rfl rfl rfl rfl rfl zzi zzi (zA2 (T := tab) rfl ?_ (zNH rfl rfl rfl rfl rfl rfl rfl rfl (htwo) (zA2 (T := tab) rfl ?_ (.nil _)))))) (by first | decide +kernel | kernel_rfl) ?_
       ·exact zza
       ·exact zza
       ·exact zza
       have w7 := w9
       exact zAb ⟨fun _ => ⟨.inr rfl, _, _, _, rfl, (by (repeat' first | exact trivial | exact Nat.le_of_ble_eq_true rfl | exact Nat.le_of_eq w7.symm | apply And.intro)), rfl, fun X => zAh (ad := []) ⟨(tk7 _), ⟨rfl, rfl, rfl, rfl, rfl⟩, trivial⟩ zm⟩, fun h => absurd he h⟩
      have hfp := hfp.2 he
      repeat' apply zn
      refine zLE zAO [24, 25] 3 [0, 1] [2] (.cons rfl (zEe tOk hnt rfl (by dsimp only [zBh]; repeat' first | exact trivial | assumption | exact Nat.le_of_ble_eq_true rfl | apply And.intro | exact rfl | omega)) (.cons rfl (zDY tOk hnt rfl (by dsimp only [zBh]; repeat' first | exact trivial | assumption | exact Nat.le_of_ble_eq_true rfl | apply And.intro | exact rfl | omega) rfl rfl) (.cons rfl (zDY tOk hnt rfl (by dsimp only [zBh]; repeat' first | exact trivial | assumption | exact Nat.le_of_ble_eq_true rfl | apply And.intro | exact rfl | omega) rfl rfl) (.nil))) (.pan rfl (zFn (us := []) [(900000, 900000)] [] [] rfl rfl rfl rfl (hfp) zg (fun _ => rfl) rfl rfl (fun _ => rfl) default zzi (fun _ => zzi)) (.cons rfl (zDY tOk hnt rfl (by dsimp only [zBh]; repeat' first | exact trivial | assumption | exact Nat.le_of_ble_eq_true rfl | apply And.intro | exact rfl | omega) rfl rfl) (.cons rfl (zDY tOk hnt rfl (by dsimp only [zBh]; repeat' first | exact trivial | assumption | exact Nat.le_of_ble_eq_true rfl | apply And.intro | exact rfl | omega) rfl rfl) (.nil))))) (by decide +kernel) (fun _ => ?_)
      exact ⟨fun h => absurd h he, fun _ => ⟨rfl, _, fun X => zle⟩⟩
     exact absurd hc Bool.noConfusion
    | false =>
     repeat' apply zn
     refine zAa (zzx hnt rfl ?_ (call rfl rfl rfl rfl rfl rfl rfl hnt (hmk) (zzx hnt rfl ?_ (zA9 (us := []) [(900000, 900000)] [] [] rfl rfl rfl rfl (zCA l q _ hm1 hm0 hs2) zg (fun _ => rfl) rfl rfl hnt rfl rfl zzi zzi (zzx hnt rfl ?_ (Lex.nil _)))))) ?_
     ·exact zzt
     ·exact zzt
     ·exact zzt
     refine zc (fun hc => ?_) fun hc => ?_
     ·exact absurd hc Bool.noConfusion
     repeat' first | refine zx ?_ | apply zn
     refine ⟨i + 1, ⟨hlt, fun j hj => by rcases Nat.lt_succ_iff_lt_or_eq.1 hj with h | h; exact hno j h; rw [h, hop]; exact hs2⟩, by omega, zAh (ad := []) ⟨zzl, zzl, zzl, zzl, zzl, zzl, zzl, trivial⟩ zm⟩
   simp only [zz] at hc
   have hi : i = 6 := by omega
   subst hi
   have hat : zDc l ⟨q, 0⟩ 3 = 0 := by
    unfold zDc
    rw [zJ6 (ops := zDJ 3) (f := fun op => zAc l ⟨q, 0⟩ (mkS op)) hno]
    rfl
   rw [if_pos hat] at hwh
   subst hwh
   refine zAt ?_
   have w8 : (Cs.es (List.take 7 (List.drop 0 (eEx e0)))).len = 7 := by rw [tk7]; exact w7
   refine zxa ?_
   rw [tk7]
   exact zAb ⟨fun _ => ⟨.inr rfl, _, _, _, rfl, (by (repeat' first | exact trivial | exact Nat.le_of_ble_eq_true rfl | exact Nat.le_of_eq w7.symm | apply And.intro)), rfl, fun X => zAh (ad := []) ⟨(tk7 _), ⟨rfl, rfl, rfl, rfl, rfl⟩, trivial⟩ zm⟩, fun h => absurd rfl h⟩
 have hz := hz.2 he
 have hs : zAc l s0 zCS = false := zAV he
 rw [if_neg (by rw [hs]; exact Bool.noConfusion), zJT he] at hwh
 subst hwh
 refine zP 1 [(900000, 900000)] [] [] hz fun _ => ?_
 exact ⟨fun h => absurd h he, fun _ => ⟨rfl, _, fun X => zle⟩⟩
theorem zQR (l : List Tok) (ho : zAW l) (p : Nat) (hp : p <= l.length) (c0 : Spot -> Ex × Spot) (hcb : ∀ s, s.e ≠ 0 -> c0 s = (ex0, s)) (hcf : Fwd l c0) (hf : ∀ q, p < q -> q <= l.length -> Rds l 104 c0 q) : FnR Tryz.prog 130 (gK) (msR l p) [ptS] ((zA3 l c0 ⟨p, 0⟩).2.e = 0) (.agg (.es (eEx (zA3 l c0 ⟨p, 0⟩).1))) (msR l (zA3 l c0 ⟨p, 0⟩).2.p) (msR l) (chS (zA3 l c0 ⟨p, 0⟩).2) := by
 refine zBG (T := tab) tOk Tryz.func130 rfl (by kernel_rfl) (by simp [Tryz.ntmps130]) rfl rfl (fun _ => rfl) ?_
 intro X hX
 have hnt : X.nt = 143 := hX
 clear hX
 have hm := ho.1
 have hm' : l.length <= 9223372036854775807 := Nat.le_trans hm (by decide)
 have h1 : ((eRd l p).getD (0 + 0) E.dflt).xs.length = l.length := List.length_map ..
 have h2 : ((eRd l p).getD (0 + 1) E.dflt).int = (p : Int) := rfl
 have hg : p < l.length -> ((eRd l p).getD (0 + 0) E.dflt).xs.getD ((eRd l p).getD (0 + 1) E.dflt).int.toNat [] = zBO (l.getD p zBj) := fun h => zDQ l h
 generalize hgr : zA3 l c0 ⟨p, 0⟩ = g at *
 unfold zA3 at hgr
 repeat' first | refine zx ?_ | apply zn
 cases hs1 : zAc l ⟨p, 0⟩ zB8 with
 | true =>
  rw [if_pos hs1] at hgr
  subst hgr
  repeat' apply zn
  refine zAa (zzx hnt rfl ?_ (call rfl rfl rfl rfl rfl rfl rfl hnt ((zBx ([78, 85, 76, 76]))) (zzx hnt rfl ?_ (zA9 (us := []) [(900000, 900000)] [] [] rfl rfl rfl rfl (zB2 l hm p zB8 (Nat.le_of_ble_eq_true rfl) (by decide) hs1) zg (fun _ => rfl) rfl rfl hnt rfl rfl zzi zzi (zzx hnt rfl ?_ (Lex.nil _)))))) ?_
  ·exact zzt
  ·exact zzt
  ·exact zzt
  refine zc (fun hc => ?_) fun hc => ?_
  ·have w7 : (Cs.es (eEx (zEi zBD))).len = 7 := by rw [zAp]; rfl
   have hl := zFA zBD
   refine zC hl ?_
   exact zAb ⟨fun _ => ⟨.inr rfl, _, _, _, rfl, (by (repeat' first | exact trivial | exact Nat.le_of_ble_eq_true rfl | exact Nat.le_of_eq w7.symm | apply And.intro)), rfl, fun X => zAh (ad := []) ⟨(tk7 _), ⟨rfl, rfl, rfl, rfl, rfl⟩, trivial⟩ zm⟩, fun h => absurd rfl h⟩
  exact absurd hc Bool.noConfusion
 | false =>
 rw [if_neg (by rw [hs1]; exact Bool.noConfusion)] at hgr
 repeat' apply zn
 refine zAa (zzx hnt rfl ?_ (call rfl rfl rfl rfl rfl rfl rfl hnt ((zBx ([78, 85, 76, 76]))) (zzx hnt rfl ?_ (zA9 (us := []) [(900000, 900000)] [] [] rfl rfl rfl rfl (zCA l p zB8 (Nat.le_of_ble_eq_true rfl) (by decide) hs1) zg (fun _ => rfl) rfl rfl hnt rfl rfl zzi zzi (zzx hnt rfl ?_ (Lex.nil _)))))) ?_
 ·exact zzt
 ·exact zzt
 ·exact zzt
 refine zc (fun hc => ?_) fun hc => ?_
 ·exact absurd hc Bool.noConfusion
 refine zAq (s' := St.of [(0, ptS), (2, .one (.ptr 2 0 0)), (900000, ptS), ((1000000 + 5), .one (.eptr fsE)), ((1000000 + 6), .one (.eptr acE))] [(2, ⟨0, .box (.ds [.e (eI 0), .e (eI 0), .e (eI 0), .e (eQ 0), .e (eT []), .e (eT []), .nil]), 0⟩), (900000, ⟨0, .box (.es (eRd l p)), 0⟩)]) (zAh (ad := []) ⟨zzl, zzl, zzl, zzl, zzl, trivial⟩ zm) ?_
 cases hs2 : zAc l ⟨p, 0⟩ zLK with
 | true =>
  rw [if_pos hs2] at hgr
  subst hgr
  repeat' apply zn
  refine zAa (zzx hnt rfl ?_ (call rfl rfl rfl rfl rfl rfl rfl hnt ((zBx ([84, 82, 85, 69]))) (zzx hnt rfl ?_ (zA9 (us := []) [(900000, 900000)] [] [] rfl rfl rfl rfl (zB2 l hm p zLK (Nat.le_of_ble_eq_true rfl) (by decide) hs2) zg (fun _ => rfl) rfl rfl hnt rfl rfl zzi zzi (zzx hnt rfl ?_ (Lex.nil _)))))) ?_
  ·exact zzt
  ·exact zzt
  ·exact zzt
  refine zc (fun hc => ?_) fun hc => ?_
  ·have w7 : (Cs.es (eEx (zEi (⟨1, 1, 0, []⟩)))).len = 7 := by rw [zAp]; rfl
   have hl := zFA (⟨1, 1, 0, []⟩)
   refine zC hl ?_
   exact zAb ⟨fun _ => ⟨.inr rfl, _, _, _, rfl, (by (repeat' first | exact trivial | exact Nat.le_of_ble_eq_true rfl | exact Nat.le_of_eq w7.symm | apply And.intro)), rfl, fun X => zAh (ad := []) ⟨(tk7 _), ⟨rfl, rfl, rfl, rfl, rfl⟩, trivial⟩ zm⟩, fun h => absurd rfl h⟩
  exact absurd hc Bool.noConfusion
 | false =>
 rw [if_neg (by rw [hs2]; exact Bool.noConfusion)] at hgr
 repeat' apply zn
 refine zAa (zzx hnt rfl ?_ (call rfl rfl rfl rfl rfl rfl rfl hnt ((zBx ([84, 82, 85, 69]))) (zzx hnt rfl ?_ (zA9 (us := []) [(900000, 900000)] [] [] rfl rfl rfl rfl (zCA l p zLK (Nat.le_of_ble_eq_true rfl) (by decide) hs2) zg (fun _ => rfl) rfl rfl hnt rfl rfl zzi zzi (zzx hnt rfl ?_ (Lex.nil _)))))) ?_
 ·exact zzt
 ·exact zzt
 ·exact zzt
 refine zc (fun hc => ?_) fun hc => ?_
 ·exact absurd hc Bool.noConfusion
 refine zAq (s' := St.of [(0, ptS), (2, .one (.ptr 2 0 0)), (900000, ptS), ((1000000 + 5), .one (.eptr fsE)), ((1000000 + 6), .one (.eptr acE))] [(2, ⟨0, .box (.ds [.e (eI 0), .e (eI 0), .e (eI 0), .e (eQ 0), .e (eT []), .e (eT []), .nil]), 0⟩), (900000, ⟨0, .box (.es (eRd l p)), 0⟩)]) (zAh (ad := []) ⟨zzl, zzl, zzl, zzl, zzl, trivial⟩ zm) ?_
 cases hs3 : zAc l ⟨p, 0⟩ zLL with
 | true =>
  rw [if_pos hs3] at hgr
  subst hgr
  repeat' apply zn
  refine zAa (zzx hnt rfl ?_ (call rfl rfl rfl rfl rfl rfl rfl hnt ((zBx ([70, 65, 76, 83, 69]))) (zzx hnt rfl ?_ (zA9 (us := []) [(900000, 900000)] [] [] rfl rfl rfl rfl (zB2 l hm p zLL (Nat.le_of_ble_eq_true rfl) (by decide) hs3) zg (fun _ => rfl) rfl rfl hnt rfl rfl zzi zzi (zzx hnt rfl ?_ (Lex.nil _)))))) ?_
  ·exact zzt
  ·exact zzt
  ·exact zzt
  refine zc (fun hc => ?_) fun hc => ?_
  ·have w7 : (Cs.es (eEx (zEi (⟨1, 0, 0, []⟩)))).len = 7 := by rw [zAp]; rfl
   have hl := zFA (⟨1, 0, 0, []⟩)
   refine zC hl ?_
   exact zAb ⟨fun _ => ⟨.inr rfl, _, _, _, rfl, (by (repeat' first | exact trivial | exact Nat.le_of_ble_eq_true rfl | exact Nat.le_of_eq w7.symm | apply And.intro)), rfl, fun X => zAh (ad := []) ⟨(tk7 _), ⟨rfl, rfl, rfl, rfl, rfl⟩, trivial⟩ zm⟩, fun h => absurd rfl h⟩
  exact absurd hc Bool.noConfusion
 | false =>
 rw [if_neg (by rw [hs3]; exact Bool.noConfusion)] at hgr
 repeat' apply zn
 refine zAa (zzx hnt rfl ?_ (call rfl rfl rfl rfl rfl rfl rfl hnt ((zBx ([70, 65, 76, 83, 69]))) (zzx hnt rfl ?_ (zA9 (us := []) [(900000, 900000)] [] [] rfl rfl rfl rfl (zCA l p zLL (Nat.le_of_ble_eq_true rfl) (by decide) hs3) zg (fun _ => rfl) rfl rfl hnt rfl rfl zzi zzi (zzx hnt rfl ?_ (Lex.nil _)))))) ?_
 ·exact zzt
 ·exact zzt
 ·exact zzt
 refine zc (fun hc => ?_) fun hc => ?_
 ·exact absurd hc Bool.noConfusion
 refine zAq (s' := St.of [(0, ptS), (2, .one (.ptr 2 0 0)), (900000, ptS), ((1000000 + 5), .one (.eptr fsE)), ((1000000 + 6), .one (.eptr acE))] [(2, ⟨0, .box (.ds [.e (eI 0), .e (eI 0), .e (eI 0), .e (eQ 0), .e (eT []), .e (eT []), .nil]), 0⟩), (900000, ⟨0, .box (.es (eRd l p)), 0⟩)]) (zAh (ad := []) ⟨zzl, zzl, zzl, zzl, zzl, trivial⟩ zm) ?_
 cases hs4 : zAc l ⟨p, 0⟩ zBf with
 | true =>
  rw [if_pos hs4, zA6 hs4] at hgr
  have hlt := (zAw.1 hs4).2.1
  have hz := hf (p + 1) (Nat.lt_succ_self _) hlt
  unfold Rds at hz
  generalize hr : c0 ⟨p + 1, 0⟩ = r at *
  obtain ⟨e1, s1⟩ := r
  have hgr : (e1, zAk l s1 [zB7]) = g := hgr
  subst hgr
  have w7 : (Cs.es (eEx e1)).len = 7 := by rw [zAp]; rfl
  have w8 : (Cs.es (List.take 7 (List.drop 0 (eEx e1)))).len = 7 := by rw [tk7]; exact w7
  repeat' apply zn
  refine zAa (zzx hnt rfl ?_ (call rfl rfl rfl rfl rfl rfl rfl hnt ((zAN ([40]))) (zzx hnt rfl ?_ (zA9 (us := []) [(900000, 900000)] [] [] rfl rfl rfl rfl (zB2 l hm p zBf (Nat.le_of_ble_eq_true rfl) (by decide) hs4) zg (fun _ => rfl) rfl rfl hnt rfl rfl zzi zzi (zzx hnt rfl ?_ (Lex.nil _)))))) ?_
  ·exact zzt
  ·exact zzt
  ·exact zzt
  refine zc (fun hc => ?_) fun hc => ?_
  ·by_cases he : s1.e = 0
   ·have hz := hz.1 he
    obtain ⟨q, z⟩ := s1
    have he : z = 0 := he
    subst he
    refine zH [(900000, 900000)] [] [] hz ?_
    have hwt := zEI l hm q zB7 (Nat.le_of_ble_eq_true rfl) (by decide)
    generalize zAk l ⟨q, 0⟩ [zB7] = s2 at *
    by_cases he : s2.e = 0
    ·repeat' apply zn
     refine zAa (zzx hnt rfl ?_ (call rfl rfl rfl rfl rfl rfl rfl hnt ((zAN [41])) (zzx hnt rfl ?_ (zA9 (us := []) [(900000, 900000)] [] [] rfl rfl rfl rfl ((hwt.1 he)) zg (fun _ => rfl) rfl rfl hnt rfl rfl zzi zzi (zzx hnt rfl ?_ (Lex.nil _)))))) ?_
     ·exact zzt
     ·exact zzt
     ·exact zzt
     refine zxa ?_
     rw [tk7]
     exact zAb ⟨fun _ => ⟨.inr rfl, _, _, _, rfl, (by (repeat' first | exact trivial | exact Nat.le_of_ble_eq_true rfl | exact Nat.le_of_eq w7.symm | apply And.intro)), rfl, fun X => zAh (ad := []) ⟨(tk7 _), ⟨rfl, rfl, rfl, rfl, rfl⟩, trivial⟩ zm⟩, fun h => absurd he h⟩
    repeat' apply zn
    refine zAE 2 (zzx hnt rfl ?_ (call rfl rfl rfl rfl rfl rfl rfl hnt ((zAN [41])) (zzx hnt rfl ?_ (Lex.nil _)))) (zFn (us := []) [(900000, 900000)] [] [] rfl rfl rfl rfl (hwt.2 he) zg (fun _ => rfl) rfl rfl (fun _ => rfl) default zzi (fun _ => zzi)) (fun _ => ?_)
    ·exact zzt
    ·exact zzt
    exact ⟨fun h => absurd h he, fun _ => ⟨rfl, _, fun X => zle⟩⟩
   have hz := hz.2 he
   rw [zBJ he]
   refine zP 1 [(900000, 900000)] [] [] hz fun _ => ?_
   exact ⟨fun h => absurd h he, fun _ => ⟨rfl, _, fun X => zle⟩⟩
  exact absurd hc Bool.noConfusion
 | false =>
 rw [if_neg (by rw [hs4]; exact Bool.noConfusion)] at hgr
 repeat' apply zn
 refine zAa (zzx hnt rfl ?_ (call rfl rfl rfl rfl rfl rfl rfl hnt ((zAN ([40]))) (zzx hnt rfl ?_ (zA9 (us := []) [(900000, 900000)] [] [] rfl rfl rfl rfl (zCA l p zBf (Nat.le_of_ble_eq_true rfl) (by decide) hs4) zg (fun _ => rfl) rfl rfl hnt rfl rfl zzi zzi (zzx hnt rfl ?_ (Lex.nil _)))))) ?_
 ·exact zzt
 ·exact zzt
 ·exact zzt
 refine zc (fun hc => ?_) fun hc => ?_
 ·exact absurd hc Bool.noConfusion
 refine zAq (s' := St.of [(0, ptS), (2, .one (.ptr 2 0 0)), (900000, ptS), ((1000000 + 5), .one (.eptr fsE)), ((1000000 + 6), .one (.eptr acE))] [(2, ⟨0, .box (.ds [.e (eI 0), .e (eI 0), .e (eI 0), .e (eQ 0), .e (eT []), .e (eT []), .nil]), 0⟩), (900000, ⟨0, .box (.es (eRd l p)), 0⟩)]) (zAh (ad := []) ⟨zzl, zzl, zzl, zzl, zzl, trivial⟩ zm) ?_
 cases hs5 : zAc l ⟨p, 0⟩ zDz with
 | true =>
  have hE : zAk l ⟨p, 0⟩ [zDz, zBf] = zAk l ⟨p + 1, 0⟩ [zBf] := by rw [zAQ, if_pos hs5]
  rw [if_pos hs5, hE] at hgr
  have hlt := (zAw.1 hs5).2.1
  have hwl := zEI l hm (p + 1) zBf (Nat.le_of_ble_eq_true rfl) (by decide)
  repeat' apply zn
  refine zAa (zzx hnt rfl ?_ (call rfl rfl rfl rfl rfl rfl rfl hnt ((zBx ([76, 69, 78, 71, 84, 72]))) (zzx hnt rfl ?_ (zA9 (us := []) [(900000, 900000)] [] [] rfl rfl rfl rfl (zB2 l hm p zDz (Nat.le_of_ble_eq_true rfl) (by decide) hs5) zg (fun _ => rfl) rfl rfl hnt rfl rfl zzi zzi (zzx hnt rfl ?_ (Lex.nil _)))))) ?_
  ·exact zzt
  ·exact zzt
  ·exact zzt
  refine zc (fun hc => ?_) fun hc => ?_
  ·cases hs6 : zAc l ⟨p + 1, 0⟩ zBf with
   | false =>
    rw [zDB hs6, hcb _ zCY, zBJ zCY] at hgr
    rw [zDB hs6] at hwl
    subst hgr
    have he := zCY (l := l) (p := p + 1)
    repeat' apply zn
    refine zAE 2 (zzx hnt rfl ?_ (call rfl rfl rfl rfl rfl rfl rfl hnt ((zAN [40])) (zzx hnt rfl ?_ (Lex.nil _)))) (zFn (us := []) [(900000, 900000)] [] [] rfl rfl rfl rfl (hwl.2 he) zg (fun _ => rfl) rfl rfl (fun _ => rfl) default zzi (fun _ => zzi)) (fun _ => ?_)
    ·exact zzt
    ·exact zzt
    exact ⟨fun h => absurd h he, fun _ => ⟨rfl, _, fun X => zle⟩⟩
   | true =>
    have hlt2 : p + 2 <= l.length := (zAw.1 hs6).2.1
    rw [zA6 hs6] at hgr hwl
    repeat' apply zn
    refine zAa (zzx hnt rfl ?_ (call rfl rfl rfl rfl rfl rfl rfl hnt ((zAN [40])) (zzx hnt rfl ?_ (zA9 (us := []) [(900000, 900000)] [] [] rfl rfl rfl rfl ((hwl.1 rfl)) zg (fun _ => rfl) rfl rfl hnt rfl rfl zzi zzi (zzx hnt rfl ?_ (Lex.nil _)))))) ?_
    ·exact zzt
    ·exact zzt
    ·exact zzt
    have hz := hf (p + 2) (by omega) hlt2
    unfold Rds at hz
    have hgr : (.mk 18 zBD [] [(c0 ⟨p + 2, 0⟩).1], zAk l (c0 ⟨p + 2, 0⟩).2 [zB7]) = g := hgr
    generalize hr : c0 ⟨p + 2, 0⟩ = r at *
    obtain ⟨e1, s1⟩ := r
    have hgr : (.mk 18 zBD [] [e1], zAk l s1 [zB7]) = g := hgr
    subst hgr
    have w7 : (Cs.es (eEx e1)).len = 7 := by rw [zAp]; rfl
    have w8 : (Cs.es (List.take 7 (List.drop 0 (eEx e1)))).len = 7 := by rw [tk7]; exact w7
    by_cases he : s1.e = 0
    ·have hz := hz.1 he
     obtain ⟨q, z⟩ := s1
     have he : z = 0 := he
     subst he
     refine zH [(900000, 900000)] [] [] hz ?_
     have hwt := zEI l hm q zB7 (Nat.le_of_ble_eq_true rfl) (by decide)
     generalize zAk l ⟨q, 0⟩ [zB7] = s2 at *
     by_cases he : s2.e = 0
     ·repeat' apply zn
      refine zAa (zzx hnt rfl ?_ (call rfl rfl rfl rfl rfl rfl rfl hnt ((zAN [41])) (zzx hnt rfl ?_ (zA9 (us := []) [(900000, 900000)] [] [] rfl rfl rfl rfl ((hwt.1 he)) zg (fun _ => rfl) rfl rfl hnt rfl rfl zzi zzi (zzx hnt rfl ?_ (Lex.nil _)))))) ?_
      ·exact zzt
      ·exact zzt
      ·exact zzt
      refine zxa ?_
      refine zAq (zDK 2 rfl rfl rfl) ?_
      rw [tk7]
      exact zAb ⟨fun _ => ⟨.inr rfl, _, _, _, rfl, (by (repeat' first | exact trivial | exact Nat.le_of_ble_eq_true rfl | exact Nat.le_of_eq w7.symm | apply And.intro)), rfl, fun X => zAh (ad := []) ⟨(by rw [zBZ]; rfl), ⟨rfl, rfl, rfl, rfl, rfl⟩, trivial⟩ zm⟩, fun h => absurd he h⟩
     repeat' apply zn
     refine zAE 2 (zzx hnt rfl ?_ (call rfl rfl rfl rfl rfl rfl rfl hnt ((zAN [41])) (zzx hnt rfl ?_ (Lex.nil _)))) (zFn (us := []) [(900000, 900000)] [] [] rfl rfl rfl rfl (hwt.2 he) zg (fun _ => rfl) rfl rfl (fun _ => rfl) default zzi (fun _ => zzi)) (fun _ => ?_)
     ·exact zzt
     ·exact zzt
     exact ⟨fun h => absurd h he, fun _ => ⟨rfl, _, fun X => zle⟩⟩
    have hz := hz.2 he
    rw [zBJ he]
    refine zP 1 [(900000, 900000)] [] [] hz fun _ => ?_
    exact ⟨fun h => absurd h he, fun _ => ⟨rfl, _, fun X => zle⟩⟩
  exact absurd hc Bool.noConfusion
 | false =>
 rw [if_neg (by rw [hs5]; exact Bool.noConfusion)] at hgr
 repeat' apply zn
 refine zAa (zzx hnt rfl ?_ (call rfl rfl rfl rfl rfl rfl rfl hnt ((zBx ([76, 69, 78, 71, 84, 72]))) (zzx hnt rfl ?_ (zA9 (us := []) [(900000, 900000)] [] [] rfl rfl rfl rfl (zCA l p zDz (Nat.le_of_ble_eq_true rfl) (by decide) hs5) zg (fun _ => rfl) rfl rfl hnt rfl rfl zzi zzi (zzx hnt rfl ?_ (Lex.nil _)))))) ?_
 ·exact zzt
 ·exact zzt
 ·exact zzt
 refine zc (fun hc => ?_) fun hc => ?_
 ·exact absurd hc Bool.noConfusion
 refine zAq (s' := St.of [(0, ptS), (2, .one (.ptr 2 0 0)), (900000, ptS), ((1000000 + 5), .one (.eptr fsE)), ((1000000 + 6), .one (.eptr acE))] [(2, ⟨0, .box (.ds [.e (eI 0), .e (eI 0), .e (eI 0), .e (eQ 0), .e (eT []), .e (eT []), .nil]), 0⟩), (900000, ⟨0, .box (.es (eRd l p)), 0⟩)]) (zAh (ad := []) ⟨zzl, zzl, zzl, zzl, zzl, trivial⟩ zm) ?_
 cases hs5' : zAc l ⟨p, 0⟩ zDa with
 | true =>
  have hE : zAk l ⟨p, 0⟩ [zDa, zBf] = zAk l ⟨p + 1, 0⟩ [zBf] := by rw [zAQ, if_pos hs5']
  rw [if_pos hs5', hE] at hgr
  have hlt := (zAw.1 hs5').2.1
  have hwl := zEI l hm (p + 1) zBf (Nat.le_of_ble_eq_true rfl) (by decide)
  repeat' apply zn
  refine zAa (zzx hnt rfl ?_ (call rfl rfl rfl rfl rfl rfl rfl hnt ((zBx ([67, 79, 65, 76, 69, 83, 67, 69]))) (zzx hnt rfl ?_ (zA9 (us := []) [(900000, 900000)] [] [] rfl rfl rfl rfl (zB2 l hm p zDa (Nat.le_of_ble_eq_true rfl) (by decide) hs5') zg (fun _ => rfl) rfl rfl hnt rfl rfl zzi zzi (zzx hnt rfl ?_ (Lex.nil _)))))) ?_
  ·exact zzt
  ·exact zzt
  ·exact zzt
  refine zc (fun hc => ?_) fun hc => ?_
  ·cases hs6 : zAc l ⟨p + 1, 0⟩ zBf with
   | false =>
    rw [zDB hs6, hcb _ zCY, zBJ zCY, hcb _ zCY, zBJ zCY] at hgr
    rw [zDB hs6] at hwl
    subst hgr
    have he := zCY (l := l) (p := p + 1)
    repeat' apply zn
    refine zAE 2 (zzx hnt rfl ?_ (call rfl rfl rfl rfl rfl rfl rfl hnt ((zAN [40])) (zzx hnt rfl ?_ (Lex.nil _)))) (zFn (us := []) [(900000, 900000)] [] [] rfl rfl rfl rfl (hwl.2 he) zg (fun _ => rfl) rfl rfl (fun _ => rfl) default zzi (fun _ => zzi)) (fun _ => ?_)
    ·exact zzt
    ·exact zzt
    exact ⟨fun h => absurd h he, fun _ => ⟨rfl, _, fun X => zle⟩⟩
   | true =>
    have hlt2 : p + 2 <= l.length := (zAw.1 hs6).2.1
    rw [zA6 hs6] at hgr hwl
    repeat' apply zn
    refine zAa (zzx hnt rfl ?_ (call rfl rfl rfl rfl rfl rfl rfl hnt ((zAN [40])) (zzx hnt rfl ?_ (zA9 (us := []) [(900000, 900000)] [] [] rfl rfl rfl rfl ((hwl.1 rfl)) zg (fun _ => rfl) rfl rfl hnt rfl rfl zzi zzi (zzx hnt rfl ?_ (Lex.nil _)))))) ?_
    ·exact zzt
    ·exact zzt
    ·exact zzt
    have hz := hf (p + 2) (by omega) hlt2
    have hfw := hcf ⟨p + 2, 0⟩
    unfold Rds at hz
    have hgr : (.mk 20 zBD [] [(c0 ⟨p + 2, 0⟩).1, (c0 (zAk l (c0 ⟨p + 2, 0⟩).2 [zFo])).1], zAk l (c0 (zAk l (c0 ⟨p + 2, 0⟩).2 [zFo])).2 [zB7]) = g := hgr
    generalize hr : c0 ⟨p + 2, 0⟩ = r at *
    obtain ⟨e1, s1⟩ := r
    have hgr : (.mk 20 zBD [] [e1, (c0 (zAk l s1 [zFo])).1], zAk l (c0 (zAk l s1 [zFo])).2 [zB7]) = g := hgr
    have w7 : (Cs.es (eEx e1)).len = 7 := by rw [zAp]; rfl
    have w8 : (Cs.es (List.take 7 (List.drop 0 (eEx e1)))).len = 7 := by rw [tk7]; exact w7
    by_cases he : s1.e = 0
    ·have hz := hz.1 he
     obtain ⟨q, z⟩ := s1
     have he : z = 0 := he
     subst he
     have hq1 : p + 2 <= q := hfw.1
     have hq2 : q <= l.length := hfw.2 hlt2
     refine zH [(900000, 900000)] [] [] hz ?_
     have hwc := zEI l hm q zFo (Nat.le_of_ble_eq_true rfl) (by decide)
     cases hs7 : zAc l ⟨q, 0⟩ zFo with
     | false =>
      rw [zDB hs7, hcb _ zCY, zBJ zCY] at hgr
      rw [zDB hs7] at hwc
      subst hgr
      have he := zCY (l := l) (p := q)
      repeat' apply zn
      refine zAE 2 (zzx hnt rfl ?_ (call rfl rfl rfl rfl rfl rfl rfl hnt ((zAN [44])) (zzx hnt rfl ?_ (Lex.nil _)))) (zFn (us := []) [(900000, 900000)] [] [] rfl rfl rfl rfl (hwc.2 he) zg (fun _ => rfl) rfl rfl (fun _ => rfl) default zzi (fun _ => zzi)) (fun _ => ?_)
      ·exact zzt
      ·exact zzt
      exact ⟨fun h => absurd h he, fun _ => ⟨rfl, _, fun X => zle⟩⟩
     | true =>
      have hlt3 : q + 1 <= l.length := (zAw.1 hs7).2.1
      rw [zA6 hs7] at hgr hwc
      repeat' apply zn
      refine zAa (zzx hnt rfl ?_ (call rfl rfl rfl rfl rfl rfl rfl hnt ((zAN [44])) (zzx hnt rfl ?_ (zA9 (us := []) [(900000, 900000)] [] [] rfl rfl rfl rfl ((hwc.1 rfl)) zg (fun _ => rfl) rfl rfl hnt rfl rfl zzi zzi (zzx hnt rfl ?_ (Lex.nil _)))))) ?_
      ·exact zzt
      ·exact zzt
      ·exact zzt
      have hz := hf (q + 1) (by omega) hlt3
      unfold Rds at hz
      have hgr : (.mk 20 zBD [] [e1, (c0 ⟨q + 1, 0⟩).1], zAk l (c0 ⟨q + 1, 0⟩).2 [zB7]) = g := hgr
      generalize hr2 : c0 ⟨q + 1, 0⟩ = r2 at *
      obtain ⟨e2, s2⟩ := r2
      have hgr : (.mk 20 zBD [] [e1, e2], zAk l s2 [zB7]) = g := hgr
      subst hgr
      have v7 : (Cs.es (eEx e2)).len = 7 := by rw [zAp]; rfl
      have v8 : (Cs.es (List.take 7 (List.drop 0 (eEx e2)))).len = 7 := by rw [tk7]; exact v7
      by_cases he : s2.e = 0
      ·have hz := hz.1 he
       obtain ⟨q3, z3⟩ := s2
       have he : z3 = 0 := he
       subst he
       refine zH [(900000, 900000)] [] [] hz ?_
       have hwt := zEI l hm q3 zB7 (Nat.le_of_ble_eq_true rfl) (by decide)
       generalize zAk l ⟨q3, 0⟩ [zB7] = s2 at *
       by_cases he : s2.e = 0
       ·repeat' apply zn
        refine zAa (zzx hnt rfl ?_ (call rfl rfl rfl rfl rfl rfl rfl hnt ((zAN [41])) (zzx hnt rfl ?_ (zA9 (us := []) [(900000, 900000)] [] [] rfl rfl rfl rfl ((hwt.1 he)) zg (fun _ => rfl) rfl rfl hnt rfl rfl zzi zzi (zzx hnt rfl ?_ (Lex.nil _)))))) ?_
        ·exact zzt
        ·exact zzt
        ·exact zzt
        have htwo : FnD Tryz.prog 118 [.one (.e (eI 20)), .agg (.es (List.take 7 (List.drop 0 (eEx e1)))), .agg (.es (List.take 7 (List.drop 0 (eEx e2))))] (.agg (.es (eEx (.mk 20 zBD [] [e1, e2])))) := by
         rw [tk7, tk7]
         exact zN2 20 e1 e2
        have u7 : (Cs.es (eEx (.mk 20 zBD [] [e1, e2]))).len = 7 := by rw [zAp]; rfl
        repeat' apply zn
        refine zAa (zzx hnt rfl ?_ (call rfl rfl rfl rfl rfl rfl rfl hnt (htwo) (zzx hnt rfl ?_ (Lex.nil _)))) ?_
        ·exact zza
        ·exact zza
        have w7 := u7
        exact zAb ⟨fun _ => ⟨.inr rfl, _, _, _, rfl, (by (repeat' first | exact trivial | exact Nat.le_of_ble_eq_true rfl | exact Nat.le_of_eq w7.symm | apply And.intro)), rfl, fun X => zAh (ad := []) ⟨(tk7 _), ⟨rfl, rfl, rfl, rfl, rfl⟩, trivial⟩ zm⟩, fun h => absurd he h⟩
       repeat' apply zn
       refine zAE 2 (zzx hnt rfl ?_ (call rfl rfl rfl rfl rfl rfl rfl hnt ((zAN [41])) (zzx hnt rfl ?_ (Lex.nil _)))) (zFn (us := []) [(900000, 900000)] [] [] rfl rfl rfl rfl (hwt.2 he) zg (fun _ => rfl) rfl rfl (fun _ => rfl) default zzi (fun _ => zzi)) (fun _ => ?_)
       ·exact zzt
       ·exact zzt
       exact ⟨fun h => absurd h he, fun _ => ⟨rfl, _, fun X => zle⟩⟩
      have hz := hz.2 he
      rw [zBJ he]
      refine zP 1 [(900000, 900000)] [] [] hz fun _ => ?_
      exact ⟨fun h => absurd h he, fun _ => ⟨rfl, _, fun X => zle⟩⟩
    have hz := hz.2 he
    rw [zBJ he, hcb _ he, zBJ he] at hgr
    subst hgr
    refine zP 1 [(900000, 900000)] [] [] hz fun _ => ?_
    exact ⟨fun h => absurd h he, fun _ => ⟨rfl, _, fun X => zle⟩⟩
  exact absurd hc Bool.noConfusion
 | false =>
 rw [if_neg (by rw [hs5']; exact Bool.noConfusion)] at hgr
 repeat' apply zn
 refine zAa (zzx hnt rfl ?_ (call rfl rfl rfl rfl rfl rfl rfl hnt ((zBx ([67, 79, 65, 76, 69, 83, 67, 69]))) (zzx hnt rfl ?_ (zA9 (us := []) [(900000, 900000)] [] [] rfl rfl rfl rfl (zCA l p zDa (Nat.le_of_ble_eq_true rfl) (by decide) hs5') zg (fun _ => rfl) rfl rfl hnt rfl rfl zzi zzi (zzx hnt rfl ?_ (Lex.nil _)))))) ?_
 ·exact zzt
 ·exact zzt
 ·exact zzt
 refine zc (fun hc => ?_) fun hc => ?_
 ·exact absurd hc Bool.noConfusion
 refine zAq (s' := St.of [(0, ptS), (2, .one (.ptr 2 0 0)), (900000, ptS), ((1000000 + 5), .one (.eptr fsE)), ((1000000 + 6), .one (.eptr acE))] [(2, ⟨0, .box (.ds [.e (eI 0), .e (eI 0), .e (eI 0), .e (eQ 0), .e (eT []), .e (eT []), .nil]), 0⟩), (900000, ⟨0, .box (.es (eRd l p)), 0⟩)]) (zAh (ad := []) ⟨zzl, zzl, zzl, zzl, zzl, trivial⟩ zm) ?_
 have hk : p < l.length -> FnG Tryz.prog 80 gK [.agg (.es (List.take 4 (List.drop 0 (((eRd l p).getD (0 + 0) E.dflt).xs.getD ((eRd l p).getD (0 + 1) E.dflt).int.toNat []))))] (.one (.e (eI (tkF (l.getD p zBj))))) := fun h => by
  rw [hg h]
  exact zCU _ (ho.at h)
 repeat' apply zn
 refine zAK (T := tab) tOk hnt zAO (zA2 (T := tab) rfl ?_ (zI3 rfl rfl rfl rfl rfl rfl rfl rfl (fun hq => ?_) rfl (fun hq => (hk (by have hq2 := hq; simp only [zz] at hq2; (try simp only [h1, h2] at hq2); (try simp only [zz] at hq2); omega))) (zA2 (T := tab) rfl ?_ (.nil _)))) (by first | decide +kernel | kernel_rfl) ?_
 ·(dsimp only [zBh]; (repeat' first | exact trivial | assumption | exact Nat.le_of_ble_eq_true rfl | apply And.intro | exact zAm _ _ ‹_› | exact zAi _ _ ‹_› | (intro hh_; have hg_ := hh_; (try simp only [zAr, zAs, zBm, zBp, Bool.and_eq_true, ne_eq, decide_eq_true_eq, decide_eq_false_iff_not] at hg_)) | intro _ | exact rfl | omega))
  all_goals (rw [hg (by omega)]; first | exact rfl | exact Nat.le_of_ble_eq_true rfl)
 ·exact zza
 ·exact zza
 refine zc (fun hc => ?_) fun hc => ?_
 ·simp only [zz] at hc
  (try simp only [h1, h2] at hc)
  (try simp only [zz] at hc)
  have hkd : zAU l ⟨p, 0⟩ = 0 := by
   unfold zAU
   rw [if_pos (by rcases hc with hc | hc; exact .inr (.inl (by show l.length <= p; omega)); exact .inr (.inr hc))]
  have hgr : (ex0, zBQ l ⟨p, 0⟩) = g := by
   rw [<-hgr, hkd]
   rfl
  subst hgr
  have he := zCY (l := l) (p := p)
  have hpp : (zBQ l ⟨p, 0⟩).p = p := zKp l _
  refine zP 1 [(900000, 900000)] [] [] (zLh l p) fun _ => ?_
  exact ⟨fun h => absurd h he, fun _ => ⟨rfl, _, fun X => zle⟩⟩
 simp only [zz] at hc
 (try simp only [h1, h2] at hc)
 (try simp only [zz] at hc)
 have hlt : p < l.length := by omega
 have hkd : zAU l ⟨p, 0⟩ = (l.getD p zBj).k := by
  unfold zAU
  rw [if_neg (by show ¬ ((0 : Int) ≠ 0 \/ l.length <= p \/ tkF (l.getD p zBj) ≠ 0); omega)]
 rw [hkd] at hgr
 refine zAq (s' := St.of [(0, ptS), (2, .one (.ptr 2 0 0)), (900000, ptS), ((1000000 + 5), .one (.eptr fsE)), ((1000000 + 6), .one (.eptr acE))] [(2, ⟨0, .box (.ds [.e (eI 0), .e (eI 0), .e (eI 0), .e (eQ 0), .e (eT []), .e (eT []), .nil]), 0⟩), (900000, ⟨0, .box (.es (eRd l p)), 0⟩)]) (zAh (ad := []) ⟨zzl, zzl, zzl, zzl, zzl, trivial⟩ zm) ?_
 refine zy ?_ ?_
 ·rw [hg hlt, h1, h2]
  exact zza
 rw [hg hlt]
 have hgr : (if (l.getD p zBj).k = 1 then (Ex.mk 2 zBD (l.getD p zBj).t [], (⟨p + 1, 0⟩ : Spot)) else if (l.getD p zBj).k = 3 then (zEi ⟨2, (l.getD p zBj).i, 0, []⟩, ⟨p + 1, 0⟩) else if (l.getD p zBj).k = 5 then (zEi ⟨3, 0, (l.getD p zBj).b, []⟩, ⟨p + 1, 0⟩) else if (l.getD p zBj).k = 4 then (zEi ⟨4, 0, 0, (l.getD p zBj).t⟩, ⟨p + 1, 0⟩) else (ex0, zBQ l ⟨p, 0⟩)) = g := hgr
 generalize l.getD p zBj = t at *
 have hinc := zT2 l (p := p) (by omega)
 repeat' first | refine zx ?_ | fail
 refine zc (fun hc => ?_) fun hc => ?_
 ·have hc : t.k = 1 := of_decide_eq_true hc
  rw [if_pos hc] at hgr
  subst hgr
  repeat' first | refine zx ?_ | apply zn
  exact zAb ⟨fun _ => ⟨.inr rfl, _, _, _, rfl, (zzp), rfl, fun X => zAh (ad := []) ⟨(by rw [zBZ]; exact ⟨rfl, rfl, rfl, rfl, rfl, rfl, rfl, trivial⟩), ⟨rfl, rfl, rfl, rfl, rfl⟩, trivial⟩ (zAg rfl rfl hinc trivial)⟩, fun h => absurd rfl h⟩
 have hc : ¬ t.k = 1 := of_decide_eq_false hc
 rw [if_neg hc] at hgr
 repeat' first | refine zx ?_ | fail
 refine zc (fun hc => ?_) fun hc => ?_
 ·have hc : t.k = 3 := of_decide_eq_true hc
  rw [if_pos hc] at hgr
  subst hgr
  have w7 : (Cs.es (eEx (zEi (⟨2, t.i, 0, []⟩)))).len = 7 := by rw [zAp]; rfl
  have w8 : (Cs.es (List.take 7 (List.drop 0 (eEx (zEi (⟨2, t.i, 0, []⟩)))))).len = 7 := by rw [tk7]; exact w7
  have hl := zFA (⟨2, t.i, 0, []⟩)
  repeat' apply zn
  refine zAa (zzx hnt rfl ?_ (call rfl rfl rfl rfl rfl rfl rfl hnt (hl) (zzx hnt rfl ?_ (Lex.nil _)))) ?_
  ·exact zza
  ·exact zza
  refine zxa ?_
  refine zxa ?_
  exact zAb ⟨fun _ => ⟨.inr rfl, _, _, _, rfl, (by (repeat' first | exact trivial | exact Nat.le_of_ble_eq_true rfl | exact Nat.le_of_eq w7.symm | apply And.intro)), rfl, fun X => zAh (ad := []) ⟨(zTi _), ⟨rfl, rfl, rfl, rfl, rfl⟩, trivial⟩ (zAg rfl rfl hinc trivial)⟩, fun h => absurd rfl h⟩
 have hc : ¬ t.k = 3 := of_decide_eq_false hc
 rw [if_neg hc] at hgr
 repeat' first | refine zx ?_ | fail
 refine zc (fun hc => ?_) fun hc => ?_
 ·have hc : t.k = 5 := of_decide_eq_true hc
  rw [if_pos hc] at hgr
  subst hgr
  have w7 : (Cs.es (eEx (zEi (⟨3, 0, t.b, []⟩)))).len = 7 := by rw [zAp]; rfl
  have w8 : (Cs.es (List.take 7 (List.drop 0 (eEx (zEi (⟨3, 0, t.b, []⟩)))))).len = 7 := by rw [tk7]; exact w7
  have hl := zFA (⟨3, 0, t.b, []⟩)
  repeat' apply zn
  refine zAa (zzx hnt rfl ?_ (call rfl rfl rfl rfl rfl rfl rfl hnt (hl) (zzx hnt rfl ?_ (Lex.nil _)))) ?_
  ·exact zza
  ·exact zza
  refine zxa ?_
  refine zxa ?_
  exact zAb ⟨fun _ => ⟨.inr rfl, _, _, _, rfl, (by (repeat' first | exact trivial | exact Nat.le_of_ble_eq_true rfl | exact Nat.le_of_eq w7.symm | apply And.intro)), rfl, fun X => zAh (ad := []) ⟨(zTi _), ⟨rfl, rfl, rfl, rfl, rfl⟩, trivial⟩ (zAg rfl rfl hinc trivial)⟩, fun h => absurd rfl h⟩
 have hc : ¬ t.k = 5 := of_decide_eq_false hc
 rw [if_neg hc] at hgr
 repeat' first | refine zx ?_ | fail
 refine zc (fun hc => ?_) fun hc => ?_
 ·have hc : t.k = 4 := of_decide_eq_true hc
  rw [if_pos hc] at hgr
  subst hgr
  have w7 : (Cs.es (eEx (zEi (⟨4, 0, 0, t.t⟩)))).len = 7 := by rw [zAp]; rfl
  have w8 : (Cs.es (List.take 7 (List.drop 0 (eEx (zEi (⟨4, 0, 0, t.t⟩)))))).len = 7 := by rw [tk7]; exact w7
  have hl := zFA (⟨4, 0, 0, t.t⟩)
  repeat' apply zn
  refine zAa (zzx hnt rfl ?_ (call rfl rfl rfl rfl rfl rfl rfl hnt (hl) (zzx hnt rfl ?_ (Lex.nil _)))) ?_
  ·exact zza
  ·exact zza
  refine zxa ?_
  refine zxa ?_
  exact zAb ⟨fun _ => ⟨.inr rfl, _, _, _, rfl, (by (repeat' first | exact trivial | exact Nat.le_of_ble_eq_true rfl | exact Nat.le_of_eq w7.symm | apply And.intro)), rfl, fun X => zAh (ad := []) ⟨(zTi _), ⟨rfl, rfl, rfl, rfl, rfl⟩, trivial⟩ (zAg rfl rfl hinc trivial)⟩, fun h => absurd rfl h⟩
 have hc : ¬ t.k = 4 := of_decide_eq_false hc
 rw [if_neg hc] at hgr
 subst hgr
 have he := zCY (l := l) (p := p)
 have hpp : (zBQ l ⟨p, 0⟩).p = p := zKp l _
 refine zP 1 [(900000, 900000)] [] [] (zLh l p) fun _ => ?_
 exact ⟨fun h => absurd h he, fun _ => ⟨rfl, _, fun X => zle⟩⟩
end Go.Proofs.YtcdifgacoleckaaGreatDoor
