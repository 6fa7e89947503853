/- Replies as bytes: wire.Tell and the document's ToldBytes. No condition. -/
import Derived.Test.YtekdhbekliajjaaDoorTEnA
namespace Go.Proofs.YtekdhbekliajjaaDoor
open Go Go.RowKit Go.Proofs.YtekdhbekliajjaaDoor.Ab
set_option linter.unusedSimpArgs false
set_option linter.unusedVariables false

structure Rpl where
  e : Int
  c : Int
  rs : List (List Val)
def eRpl (q : Rpl) : List E := [eI q.e, eI q.c, .sl (q.rs.map fun r => [eRow r])]
structure Rpl.ok (q : Rpl) : Prop where
  vs : ∀ r ∈ q.rs, ∀ v ∈ r, v.ok
theorem rplAll (q : Rpl) : List.take 3 (List.drop 0 (eRpl q)) = eRpl q := rfl
def rwB (r : List Val) : List UInt8 := UInt8.ofNat r.length :: UInt8.ofNat ((encF r 0).1.length / 256) :: UInt8.ofNat (encF r 0).1.length :: (encF r 0).1
def rsF : List (List Val) → Int
  | [] => 0
  | r :: l => if (encF r 0).2 ≠ 0 then (encF r 0).2 else rsF l
def rsB : List (List Val) → List UInt8
  | [] => []
  | r :: l => rwB r ++ rsB l
def hdB (q : Rpl) : List UInt8 := [UInt8.ofNat q.e.toNat, UInt8.ofNat q.c.toNat, UInt8.ofNat q.rs.length]
def tlF (q : Rpl) : List UInt8 × Int :=
  if ((q.e < 0 ∨ 12 < q.e) ∨ q.c < 0) ∨ 64 < q.c then ([], 6) else
  if 64 < q.rs.length then ([], 1) else
  if rsF q.rs ≠ 0 then ([], rsF q.rs) else (hdB q ++ rsB q.rs, 0)
theorem encB_len (d : Int) : ∀ (i : Nat) (r : List Val), (∀ v ∈ r, chk v = 0) → (encB d i r).length ≤ 83 * r.length
  | _, [], _ => Nat.le_refl _
  | i, v :: r, h => by
    have h1 := oneB_len (h v (List.mem_cons_self ..))
    have h2 := encB_len d (i + 1) r fun x hx => h x (List.mem_cons_of_mem _ hx)
    rw [encB, List.length_append, clB_len, List.length_cons]
    omega
theorem encF_len (r : List Val) (d : Int) : (encF r d).1.length ≤ 415 := by
  unfold encF
  split
  · exact Nat.zero_le _
  split
  · exact Nat.zero_le _
  · rename_i h1 h2
    have := encB_len d 0 r (fsF_all (Classical.not_not.1 h2))
    show (encB d 0 r).length ≤ 415
    omega
theorem encF_ok {r : List Val} {d : Int} (h : (encF r d).2 = 0) : r.length ≤ 5 := by
  unfold encF at h
  split at h
  · exact absurd h (by decide)
  · omega
theorem u8n (n : Nat) : IntKind.u8.wrap (n : Int) = ((UInt8.ofNat n).toNat : Int) := ofNatB n
theorem u8i {i : Int} (h : 0 ≤ i) : IntKind.u8.wrap i = ((UInt8.ofNat i.toNat).toNat : Int) := by
  rw [← ofNatB, Int.toNat_of_nonneg h]
theorem u64i {i : Int} (h : 0 ≤ i) (h1 : i ≤ (1000000 + 0)) : IntKind.u64.wrap i = ((i.toNat : Nat) : Int) := by
  rw [q_wrap, BitVec.toNat_ofInt]
  omega
theorem rwsGet (l : List (List Val)) (i : Nat) (h : i < l.length) : (l.map fun r => [eRow r]).getD i [] = [eRow (l.getD i [])] := by
  rw [List.getD_eq_getElem?_getD, List.getElem?_map, List.getElem?_eq_getElem h, List.getD_eq_getElem?_getD, List.getElem?_eq_getElem h]
  rfl
set_option maxRecDepth 10000 in
set_option maxHeartbeats 2000000 in
theorem Tell_fn (q : Rpl) : FnG Tryd.prog 18 gK [.agg (.es (eRpl q))] (rB (tlF q)) := by
  refine fn_introG (T := tab) tOk Tryd.func18 rfl (by kernel_rfl) (by simp [Tryd.ntmps18]) ?_
  intro X hX
  have hnt : X.nt = 74 := hX
  clear hX
  have hrl : (q.rs.map fun r => [eRow r]).length = q.rs.length := List.length_map ..
  have f3 : 0 + 3 ≤ (Cs.es (eRpl q)).len := Nat.le_refl 3
  unfold tlF
  repeat' (first | refine tr_seq ?_ | refine tr_block ?_ | refine tr_skip ?_)
  first | refine reg (T := tab) tOk hnt rfl ?_ ?_ | refine regD (T := tab) tOk mixedR hnt rfl (by decide +kernel) ?_ ?_
  · (dsimp only [AllP]; (repeat' first | exact trivial | assumption | exact Nat.le_of_ble_eq_true rfl | apply And.intro | exact eCells_len1 _ _ ‹_› | exact eCells_isByte _ _ ‹_› | (intro hh_; have hg_ := hh_; (try simp only [condT_ff, condF_tt, notE_t, notE_f, Bool.and_eq_true, ne_eq, decide_eq_true_eq, decide_eq_false_iff_not] at hg_)) | intro _ | exact rfl | omega))
  repeat' (first | refine tr_seq ?_ | refine tr_block ?_ | refine tr_skip ?_)
  first | refine reg (T := tab) tOk hnt rfl ?_ ?_ | refine regD (T := tab) tOk mixedR hnt rfl (by decide +kernel) ?_ ?_
  · (dsimp only [AllP]; (repeat' first | exact trivial | assumption | exact Nat.le_of_ble_eq_true rfl | apply And.intro | exact eCells_len1 _ _ ‹_› | exact eCells_isByte _ _ ‹_› | (intro hh_; have hg_ := hh_; (try simp only [condT_ff, condF_tt, notE_t, notE_f, Bool.and_eq_true, ne_eq, decide_eq_true_eq, decide_eq_false_iff_not] at hg_)) | intro _ | exact rfl | omega))
  repeat' (first | refine tr_seq ?_ | refine tr_block ?_ | refine tr_skip ?_)
  refine tr_cond rfl (fun hc => ?_) (fun hc => ?_)
  · have hc : (bif (bif (bif decide (q.e < 0) then true else decide (12 < q.e)) then true else decide (q.c < 0)) then true else decide (64 < q.c)) = true := hc
    simp only [condT_tt, condT_ff, condF_tt, condF_ff, notE_t, notE_f, decide_eq_true_eq, decide_eq_false_iff_not] at hc
    rw [if_pos hc]
    repeat' (first | refine tr_seq ?_ | refine reg (T := tab) tOk hnt rfl ?_ ?_ | refine regD (T := tab) tOk mixedR hnt rfl (by decide +kernel) ?_ ?_ | refine tr_block ?_ | refine tr_skip ?_)
    · (dsimp only [AllP]; (repeat' first | exact trivial | assumption | exact Nat.le_of_ble_eq_true rfl | apply And.intro | decide | intro _ | exact rfl))
    refine tr_ret ⟨.inr rfl, _, _, rfl, by (repeat' first | exact trivial | exact Nat.le_of_ble_eq_true rfl | apply And.intro), ?_⟩
    exact rfl
  have hc : (bif (bif (bif decide (q.e < 0) then true else decide (12 < q.e)) then true else decide (q.c < 0)) then true else decide (64 < q.c)) = false := hc
  simp only [condT_tt, condT_ff, condF_tt, condF_ff, notE_t, notE_f, decide_eq_true_eq, decide_eq_false_iff_not] at hc
  rw [if_neg (by omega)]
  repeat' (first | refine tr_seq ?_ | refine reg (T := tab) tOk hnt rfl ?_ ?_ | refine regD (T := tab) tOk mixedR hnt rfl (by decide +kernel) ?_ ?_ | refine tr_block ?_ | refine tr_skip ?_)
  · (dsimp only [AllP]; (repeat' first | exact trivial | assumption | exact Nat.le_of_ble_eq_true rfl | apply And.intro | decide | intro _ | exact rfl))
  repeat' (first | refine tr_seq ?_ | refine tr_block ?_ | refine tr_skip ?_)
  refine tr_cond rfl (fun hc => ?_) (fun hc => ?_)
  · have hc2 : decide (64 < ((q.rs.map fun r => [eRow r]).length : Int)) = true := by assumption
    rw [hrl] at hc2
    have hc2 := of_decide_eq_true hc2
    rw [if_pos (by omega)]
    repeat' (first | refine tr_seq ?_ | refine reg (T := tab) tOk hnt rfl ?_ ?_ | refine regD (T := tab) tOk mixedR hnt rfl (by decide +kernel) ?_ ?_ | refine tr_block ?_ | refine tr_skip ?_)
    · (dsimp only [AllP]; (repeat' first | exact trivial | assumption | exact Nat.le_of_ble_eq_true rfl | apply And.intro | decide | intro _ | exact rfl))
    refine tr_ret ⟨.inr rfl, _, _, rfl, by (repeat' first | exact trivial | exact Nat.le_of_ble_eq_true rfl | apply And.intro), ?_⟩
    exact rfl
  have hc2 : decide (64 < ((q.rs.map fun r => [eRow r]).length : Int)) = false := by assumption
  rw [hrl] at hc2
  have hc2 := of_decide_eq_false hc2
  rw [if_neg (by omega)]
  have hb1 : IntKind.u8.wrap q.e = ((UInt8.ofNat q.e.toNat).toNat : Int) := u8i (by omega)
  have hb2 : IntKind.u8.wrap q.c = ((UInt8.ofNat q.c.toNat).toNat : Int) := u8i (by omega)
  have hb3 : IntKind.u8.wrap ((q.rs.map fun r => [eRow r]).length : Int) = ((UInt8.ofNat q.rs.length).toNat : Int) := by rw [hrl]; exact u8n _
  have hh : [[E.v (.int .u8 (IntKind.u8.wrap q.e))], [E.v (.int .u8 (IntKind.u8.wrap q.c))], [E.v (.int .u8 (IntKind.u8.wrap ((q.rs.map fun r => [eRow r]).length : Int)))]] = eCells (hdB q) := by
    rw [hb1, hb2, hb3]
    rfl
  repeat' (first | refine tr_seq ?_ | refine tr_block ?_ | refine tr_skip ?_)
  first | refine reg (T := tab) tOk hnt rfl ?_ ?_ | refine regD (T := tab) tOk mixedR hnt rfl (by decide +kernel) ?_ ?_
  · (dsimp only [AllP]; (repeat' first | exact trivial | assumption | exact Nat.le_of_ble_eq_true rfl | apply And.intro | exact eCells_len1 _ _ ‹_› | exact eCells_isByte _ _ ‹_› | (intro hh_; have hg_ := hh_; (try simp only [condT_ff, condF_tt, notE_t, notE_f, Bool.and_eq_true, ne_eq, decide_eq_true_eq, decide_eq_false_iff_not] at hg_)) | intro _ | exact rfl | omega))
  repeat' (first | refine tr_seq ?_ | refine reg (T := tab) tOk hnt rfl ?_ ?_ | refine regD (T := tab) tOk mixedR hnt rfl (by decide +kernel) ?_ ?_ | refine tr_block ?_ | refine tr_skip ?_)
  · (dsimp only [AllP]; (repeat' first | exact trivial | assumption | exact Nat.le_of_ble_eq_true rfl | apply And.intro | decide | intro _ | exact rfl))
  repeat' (first | refine tr_seq ?_ | refine tr_block ?_ | refine tr_skip ?_)
  refine tr_loop (σ := Nat × List UInt8) (fun y => St.of [(4, .one (.own 41 0)), (43, .one (.e (.sl (q.rs.map fun r => [eRow r])))), (44, .one (.e (eI ((q.rs.map fun r => [eRow r]).length : Int)))), (45, .one (.e (eI (y.1 : Int)))), ((1000000 + 0), .one (.eptr fsE)), ((1000000 + 1), .one (.eptr acE))] [(41, ⟨0, .row 1 (eCells (hdB q ++ y.2)), 0⟩)]) (fun y => y.2 ++ rsB (q.rs.drop y.1) = rsB q.rs ∧ rsF (q.rs.drop y.1) = rsF q.rs ∧ y.1 ≤ q.rs.length ∧ y.2.length ≤ 418 * y.1) (fun y => q.rs.length - y.1) ((0, [])) (le_of (ad := []) (by refine ⟨?_, ?_, ?_, ?_, ?_, ?_, trivial⟩ <;> first | exact trivial | rfl | exact ⟨rfl, rfl⟩ | exact ⟨rfl, rfl, rfl⟩ | exact ⟨rfl, rfl, rfl, rfl⟩ | exact ⟨rfl, rfl, rfl, rfl, rfl⟩ | exact congrArg (fun z : Int => E.v (.int .i64 z)) (wrap64_id (by omega) (by omega))) (memOk_row rfl rfl (hh.trans (congrArg eCells (List.append_nil _).symm)) trivial)) ⟨rfl, rfl, Nat.zero_le _, Nat.zero_le _⟩ ?_
  rintro ⟨i, acc⟩ ⟨ha, hi, il, hal⟩
  dsimp only at ha hi il hal ⊢
  repeat' (first | refine tr_seq ?_ | refine reg (T := tab) tOk hnt rfl ?_ ?_ | refine regD (T := tab) tOk mixedR hnt rfl (by decide +kernel) ?_ ?_ | refine tr_block ?_ | refine tr_skip ?_)
  · (dsimp only [AllP]; (repeat' first | exact trivial | assumption | exact Nat.le_of_ble_eq_true rfl | apply And.intro | decide | intro _ | exact rfl))
  repeat' (first | refine tr_seq ?_ | refine tr_block ?_ | refine tr_skip ?_)
  refine tr_cond rfl (fun hc => ?_) (fun hc => ?_)
  · have hc := of_decide_eq_true hc
    rw [hrl] at hc
    have hlt : i < q.rs.length := by omega
    have hg := rwsGet q.rs i hlt
    rw [drop_getD (d := []) hlt, rsB] at ha
    rw [drop_getD (d := []) hlt, rsF] at hi
    repeat' (first | refine tr_seq ?_ | refine tr_block ?_ | refine tr_skip ?_)
    first | refine reg (T := tab) tOk hnt rfl ?_ ?_ | refine regD (T := tab) tOk mixedR hnt rfl (by decide +kernel) ?_ ?_
    · rw [Int.toNat_natCast, hg, hrl]
      (dsimp only [AllP]; (repeat' first | exact trivial | assumption | exact Nat.le_of_ble_eq_true rfl | apply And.intro | exact eCells_len1 _ _ ‹_› | exact eCells_isByte _ _ ‹_› | (intro hh_; have hg_ := hh_; (try simp only [condT_ff, condF_tt, notE_t, notE_f, Bool.and_eq_true, ne_eq, decide_eq_true_eq, decide_eq_false_iff_not] at hg_)) | intro _ | exact rfl | omega))
    rw [Int.toNat_natCast, hg]
    generalize q.rs.getD i [] = r at *
    have h4 := Encode_fn r 0
    have hel := encF_len r 0
    have hok := encF_ok (r := r) (d := 0)
    unfold rwB at ha
    generalize encF r 0 = z at *
    obtain ⟨b, e⟩ := z
    dsimp only at hel hok ha hi
    repeat' (first | refine tr_seq ?_ | refine tr_block ?_ | refine tr_skip ?_)
    refine tr_region (lex (T := tab) tOk hnt rfl ?_ (callV rfl rfl rfl rfl rfl rfl rfl hnt rfl (h4) (lex (T := tab) tOk hnt rfl ?_ (Lex.nil _)))) ?_
    · (dsimp only [AllP]; (repeat' first | exact trivial | assumption | exact Nat.le_of_ble_eq_true rfl | apply And.intro | exact eCells_len1 _ _ ‹_› | exact eCells_isByte _ _ ‹_› | (intro hh_; have hg_ := hh_; (try simp only [condT_ff, condF_tt, notE_t, notE_f, Bool.and_eq_true, ne_eq, decide_eq_true_eq, decide_eq_false_iff_not] at hg_)) | intro _ | exact rfl | omega))
    · (dsimp only [AllP]; (repeat' first | exact trivial | assumption | exact Nat.le_of_ble_eq_true rfl | apply And.intro | exact eCells_len1 _ _ ‹_› | exact eCells_isByte _ _ ‹_› | (intro hh_; have hg_ := hh_; (try simp only [condT_ff, condF_tt, notE_t, notE_f, Bool.and_eq_true, ne_eq, decide_eq_true_eq, decide_eq_false_iff_not] at hg_)) | intro _ | exact rfl | omega))
    repeat' (first | refine tr_seq ?_ | refine reg (T := tab) tOk hnt rfl ?_ ?_ | refine regD (T := tab) tOk mixedR hnt rfl (by decide +kernel) ?_ ?_ | refine tr_block ?_ | refine tr_skip ?_)
    · (dsimp only [AllP]; (repeat' first | exact trivial | assumption | exact Nat.le_of_ble_eq_true rfl | apply And.intro | decide | intro _ | exact rfl))
    repeat' (first | refine tr_seq ?_ | refine tr_block ?_ | refine tr_skip ?_)
    refine tr_cond rfl (fun hc => ?_) (fun hc => ?_)
    · simp only [condT_tt, condT_ff, condF_tt, condF_ff, notE_t, notE_f, decide_eq_true_eq, decide_eq_false_iff_not] at hc
      rw [if_pos hc] at hi
      rw [← hi, if_pos hc]
      repeat' (first | refine tr_seq ?_ | refine reg (T := tab) tOk hnt rfl ?_ ?_ | refine regD (T := tab) tOk mixedR hnt rfl (by decide +kernel) ?_ ?_ | refine tr_block ?_ | refine tr_skip ?_)
      · (dsimp only [AllP]; (repeat' first | exact trivial | assumption | exact Nat.le_of_ble_eq_true rfl | apply And.intro | decide | intro _ | exact rfl))
      refine tr_ret ⟨.inr rfl, _, _, rfl, by (repeat' first | exact trivial | exact Nat.le_of_ble_eq_true rfl | apply And.intro), ?_⟩
      exact rfl
    simp only [condT_tt, condT_ff, condF_tt, condF_ff, notE_t, notE_f, decide_eq_true_eq, decide_eq_false_iff_not] at hc
    rw [if_neg (not_not_intro hc)] at hi
    have hr5 := hok hc
    have e1 : ([eRow r].getD 0 E.dflt).xs.length = r.length := List.length_map ..
    have e2 : (eCells b).length = b.length := eCells_length b
    have hdiv : Int.fdiv (b.length : Int) (2 ^ min (Int.toNat 8) IntKind.i64.bits) = ((b.length / 256 : Nat) : Int) := by
      rw [show min (Int.toNat 8) IntKind.i64.bits = 8 from rfl, Int.fdiv_eq_ediv_of_nonneg _ (by decide)]
      rfl
    have hb4 : [[E.v (.int .u8 (IntKind.u8.wrap (([eRow r].getD 0 E.dflt).xs.length : Int)))], [E.v (.int .u8 (IntKind.u8.wrap (Int.fdiv ((eCells b).length : Int) (2 ^ min (Int.toNat 8) IntKind.i64.bits))))], [E.v (.int .u8 (IntKind.u8.wrap ((eCells b).length : Int)))]] = eCells [UInt8.ofNat r.length, UInt8.ofNat (b.length / 256), UInt8.ofNat b.length] := by
      rw [e1, e2, hdiv, u8n, u8n, u8n]
      rfl
    have hap : eCells (hdB q ++ acc) ++ eCells [UInt8.ofNat r.length, UInt8.ofNat (b.length / 256), UInt8.ofNat b.length] ++ eCells b = eCells (hdB q ++ (acc ++ (UInt8.ofNat r.length :: UInt8.ofNat (b.length / 256) :: UInt8.ofNat b.length :: b))) := by
      rw [eCells_append, eCells_append]
      congr 1
      simp
    repeat' (first | refine tr_seq ?_ | refine tr_block ?_ | refine tr_skip ?_)
    first | refine reg (T := tab) tOk hnt rfl ?_ ?_ | refine regD (T := tab) tOk mixedR hnt rfl (by decide +kernel) ?_ ?_
    · rw [hb4]
      (dsimp only [AllP]; (repeat' first | exact trivial | assumption | exact Nat.le_of_ble_eq_true rfl | apply And.intro | exact eCells_len1 _ _ ‹_› | exact eCells_isByte _ _ ‹_› | (intro hh_; have hg_ := hh_; (try simp only [condT_ff, condF_tt, notE_t, notE_f, Bool.and_eq_true, ne_eq, decide_eq_true_eq, decide_eq_false_iff_not] at hg_)) | intro _ | exact rfl | omega))
      all_goals (simp only [List.length_append, eCells_length, List.length_cons, List.length_nil, hdB, maxLen]; omega)
    rw [hb4, hap]
    repeat' (first | refine tr_seq ?_ | refine reg (T := tab) tOk hnt rfl ?_ ?_ | refine regD (T := tab) tOk mixedR hnt rfl (by decide +kernel) ?_ ?_ | refine tr_block ?_ | refine tr_skip ?_)
    · (dsimp only [AllP]; (repeat' first | exact trivial | assumption | exact Nat.le_of_ble_eq_true rfl | apply And.intro | decide | intro _ | exact rfl))
    rw [← List.append_assoc] at ha
    refine ⟨(i + 1, acc ++ (UInt8.ofNat r.length :: UInt8.ofNat (b.length / 256) :: UInt8.ofNat b.length :: b)), ⟨ha, hi, by dsimp only; omega, by dsimp only; rw [List.length_append, List.length_cons, List.length_cons, List.length_cons]; omega⟩, by dsimp only; omega, le_of (ad := []) (by refine ⟨?_, ?_, ?_, ?_, ?_, ?_, trivial⟩ <;> first | exact trivial | rfl | exact ⟨rfl, rfl⟩ | exact ⟨rfl, rfl, rfl⟩ | exact ⟨rfl, rfl, rfl, rfl⟩ | exact ⟨rfl, rfl, rfl, rfl, rfl⟩ | exact congrArg (fun z : Int => E.v (.int .i64 z)) (wrap64_id (by omega) (by omega))) (memOk_row rfl rfl rfl trivial)⟩
  have hc := of_decide_eq_false hc
  rw [hrl] at hc
  refine tr_exit ?_
  rw [List.drop_eq_nil_of_le (by omega), rsF] at hi
  rw [List.drop_eq_nil_of_le (by omega), rsB, List.append_nil] at ha
  rw [if_neg (not_not_intro hi.symm), ← ha]
  repeat' (first | refine tr_seq ?_ | refine reg (T := tab) tOk hnt rfl ?_ ?_ | refine regD (T := tab) tOk mixedR hnt rfl (by decide +kernel) ?_ ?_ | refine tr_block ?_ | refine tr_skip ?_)
  · (dsimp only [AllP]; (repeat' first | exact trivial | assumption | exact Nat.le_of_ble_eq_true rfl | apply And.intro | decide | intro _ | exact rfl))
  repeat' (first | refine tr_seq ?_ | refine tr_block ?_ | refine tr_skip ?_)
  refine tr_ret ⟨.inr rfl, _, _, rfl, by (repeat' first | exact trivial | exact Nat.le_of_ble_eq_true rfl | apply And.intro), ?_⟩
  exact rfl
set_option maxRecDepth 10000 in
set_option maxHeartbeats 2000000 in
theorem ToldBytes_fn (m : Int) (q : Rpl) (h : q.ok) : FnG Tryd.prog 19 (gM m) [.agg (.es (eRpl q))] (rB (tlF q)) := by
  refine fn_introG (T := tab) tOk Tryd.func19 rfl (by kernel_rfl) (by simp [Tryd.ntmps19]) ?_
  intro X hX
  have hnt : X.nt = 78 := hX
  clear hX
  have hrl : (q.rs.map fun r => [eRow r]).length = q.rs.length := List.length_map ..
  have f3 : 0 + 3 ≤ (Cs.es (eRpl q)).len := Nat.le_refl 3
  unfold tlF
  repeat' (first | refine tr_seq ?_ | refine tr_block ?_ | refine tr_skip ?_)
  first | refine reg (T := tab) tOk hnt rfl ?_ ?_ | refine regD (T := tab) tOk mixedR hnt rfl (by decide +kernel) ?_ ?_
  · (dsimp only [AllP]; (repeat' first | exact trivial | assumption | exact Nat.le_of_ble_eq_true rfl | apply And.intro | exact eCells_len1 _ _ ‹_› | exact eCells_isByte _ _ ‹_› | (intro hh_; have hg_ := hh_; (try simp only [condT_ff, condF_tt, notE_t, notE_f, Bool.and_eq_true, ne_eq, decide_eq_true_eq, decide_eq_false_iff_not] at hg_)) | intro _ | exact rfl | omega))
  repeat' (first | refine tr_seq ?_ | refine tr_block ?_ | refine tr_skip ?_)
  first | refine reg (T := tab) tOk hnt rfl ?_ ?_ | refine regD (T := tab) tOk mixedR hnt rfl (by decide +kernel) ?_ ?_
  · (dsimp only [AllP]; (repeat' first | exact trivial | assumption | exact Nat.le_of_ble_eq_true rfl | apply And.intro | exact eCells_len1 _ _ ‹_› | exact eCells_isByte _ _ ‹_› | (intro hh_; have hg_ := hh_; (try simp only [condT_ff, condF_tt, notE_t, notE_f, Bool.and_eq_true, ne_eq, decide_eq_true_eq, decide_eq_false_iff_not] at hg_)) | intro _ | exact rfl | omega))
  repeat' (first | refine tr_seq ?_ | refine tr_block ?_ | refine tr_skip ?_)
  refine tr_cond rfl (fun hc => ?_) (fun hc => ?_)
  · have hc : (bif (bif (bif decide (q.e < 0) then true else decide (12 < q.e)) then true else decide (q.c < 0)) then true else decide (64 < q.c)) = true := hc
    simp only [condT_tt, condT_ff, condF_tt, condF_ff, notE_t, notE_f, decide_eq_true_eq, decide_eq_false_iff_not] at hc
    rw [if_pos hc]
    repeat' (first | refine tr_seq ?_ | refine reg (T := tab) tOk hnt rfl ?_ ?_ | refine regD (T := tab) tOk mixedR hnt rfl (by decide +kernel) ?_ ?_ | refine tr_block ?_ | refine tr_skip ?_)
    · (dsimp only [AllP]; (repeat' first | exact trivial | assumption | exact Nat.le_of_ble_eq_true rfl | apply And.intro | decide | intro _ | exact rfl))
    refine tr_ret ⟨.inr rfl, _, _, rfl, by (repeat' first | exact trivial | exact Nat.le_of_ble_eq_true rfl | apply And.intro), ?_⟩
    exact rfl
  have hc : (bif (bif (bif decide (q.e < 0) then true else decide (12 < q.e)) then true else decide (q.c < 0)) then true else decide (64 < q.c)) = false := hc
  simp only [condT_tt, condT_ff, condF_tt, condF_ff, notE_t, notE_f, decide_eq_true_eq, decide_eq_false_iff_not] at hc
  rw [if_neg (by omega)]
  repeat' (first | refine tr_seq ?_ | refine reg (T := tab) tOk hnt rfl ?_ ?_ | refine regD (T := tab) tOk mixedR hnt rfl (by decide +kernel) ?_ ?_ | refine tr_block ?_ | refine tr_skip ?_)
  · (dsimp only [AllP]; (repeat' first | exact trivial | assumption | exact Nat.le_of_ble_eq_true rfl | apply And.intro | decide | intro _ | exact rfl))
  repeat' (first | refine tr_seq ?_ | refine tr_block ?_ | refine tr_skip ?_)
  refine tr_cond rfl (fun hc => ?_) (fun hc => ?_)
  · have hc2 : decide (64 < ((q.rs.map fun r => [eRow r]).length : Int)) = true := by assumption
    rw [hrl] at hc2
    have hc2 := of_decide_eq_true hc2
    rw [if_pos (by omega)]
    repeat' (first | refine tr_seq ?_ | refine reg (T := tab) tOk hnt rfl ?_ ?_ | refine regD (T := tab) tOk mixedR hnt rfl (by decide +kernel) ?_ ?_ | refine tr_block ?_ | refine tr_skip ?_)
    · (dsimp only [AllP]; (repeat' first | exact trivial | assumption | exact Nat.le_of_ble_eq_true rfl | apply And.intro | decide | intro _ | exact rfl))
    refine tr_ret ⟨.inr rfl, _, _, rfl, by (repeat' first | exact trivial | exact Nat.le_of_ble_eq_true rfl | apply And.intro), ?_⟩
    exact rfl
  have hc2 : decide (64 < ((q.rs.map fun r => [eRow r]).length : Int)) = false := by assumption
  rw [hrl] at hc2
  have hc2 := of_decide_eq_false hc2
  rw [if_neg (by omega)]
  have g1 := big_fn q.e.toNat 1 (by decide)
  have g2 := big_fn q.c.toNat 1 (by decide)
  have g3 := big_fn q.rs.length 1 (by decide)
  have w3 : IntKind.u64.wrap ((q.rs.map fun r => [eRow r]).length : Int) = (q.rs.length : Int) := by rw [hrl, u64i (by omega) (by omega)]; rfl
  rw [← u64i (by omega) (by omega)] at g1 g2
  rw [← w3] at g3
  repeat' (first | refine tr_seq ?_ | refine tr_block ?_ | refine tr_skip ?_)
  refine tr_draw (T := tab) tOk hnt mixedR (lexD (T := tab) rfl ?_ (callD rfl rfl rfl rfl rfl rfl rfl rfl (g1) (lexD (T := tab) rfl ?_ (callD rfl rfl rfl rfl rfl rfl rfl rfl (g2) (lexD (T := tab) rfl ?_ (callD rfl rfl rfl rfl rfl rfl rfl rfl (g3) (lexD (T := tab) rfl ?_ (.nil _)))))))) (by decide +kernel) ?_
  · (dsimp only [AllP]; (repeat' first | exact trivial | assumption | exact Nat.le_of_ble_eq_true rfl | apply And.intro | exact eCells_len1 _ _ ‹_› | exact eCells_isByte _ _ ‹_› | (intro hh_; have hg_ := hh_; (try simp only [condT_ff, condF_tt, notE_t, notE_f, Bool.and_eq_true, ne_eq, decide_eq_true_eq, decide_eq_false_iff_not] at hg_)) | intro _ | exact rfl | omega))
  · (dsimp only [AllP]; (repeat' first | exact trivial | assumption | exact Nat.le_of_ble_eq_true rfl | apply And.intro | exact eCells_len1 _ _ ‹_› | exact eCells_isByte _ _ ‹_› | (intro hh_; have hg_ := hh_; (try simp only [condT_ff, condF_tt, notE_t, notE_f, Bool.and_eq_true, ne_eq, decide_eq_true_eq, decide_eq_false_iff_not] at hg_)) | intro _ | exact rfl | omega))
  · (dsimp only [AllP]; (repeat' first | exact trivial | assumption | exact Nat.le_of_ble_eq_true rfl | apply And.intro | exact eCells_len1 _ _ ‹_› | exact eCells_isByte _ _ ‹_› | (intro hh_; have hg_ := hh_; (try simp only [condT_ff, condF_tt, notE_t, notE_f, Bool.and_eq_true, ne_eq, decide_eq_true_eq, decide_eq_false_iff_not] at hg_)) | intro _ | exact rfl | omega))
  · (dsimp only [AllP]; (repeat' first | exact trivial | assumption | exact Nat.le_of_ble_eq_true rfl | apply And.intro | exact eCells_len1 _ _ ‹_› | exact eCells_isByte _ _ ‹_› | (intro hh_; have hg_ := hh_; (try simp only [condT_ff, condF_tt, notE_t, notE_f, Bool.and_eq_true, ne_eq, decide_eq_true_eq, decide_eq_false_iff_not] at hg_)) | intro _ | exact rfl | omega))
    all_goals trace_state
  have hh : strB (bigF q.e.toNat 1) ++ strB (bigF q.c.toNat 1) ++ strB (bigF q.rs.length 1) = strB (hdB q ++ []) := by
    rw [strB_app, strB_app]
    rfl
  rw [hh]
  repeat' (first | refine tr_seq ?_ | refine reg (T := tab) tOk hnt rfl ?_ ?_ | refine regD (T := tab) tOk mixedR hnt rfl (by decide +kernel) ?_ ?_ | refine tr_block ?_ | refine tr_skip ?_)
  · (dsimp only [AllP]; (repeat' first | exact trivial | assumption | exact Nat.le_of_ble_eq_true rfl | apply And.intro | decide | intro _ | exact rfl))
  repeat' (first | refine tr_seq ?_ | refine tr_block ?_ | refine tr_skip ?_)
  refine tr_loop (σ := Nat × List UInt8) (fun y => St.of [(4, .v (.string (strB (hdB q ++ y.2)))), (47, .one (.e (.sl (q.rs.map fun r => [eRow r])))), (48, .one (.e (eI ((q.rs.map fun r => [eRow r]).length : Int)))), (49, .one (.e (eI (y.1 : Int)))), ((1000000 + 0), .one (.eptr fsE)), ((1000000 + 1), .one (.eptr acE)), ((1000000 + 3), .one (.eptr (mlE m)))] []) (fun y => y.2 ++ rsB (q.rs.drop y.1) = rsB q.rs ∧ rsF (q.rs.drop y.1) = rsF q.rs ∧ y.1 ≤ q.rs.length ∧ y.2.length ≤ 418 * y.1) (fun y => q.rs.length - y.1) ((0, [])) (le_of (ad := []) (by refine ⟨?_, ?_, ?_, ?_, ?_, ?_, ?_, trivial⟩ <;> first | exact trivial | rfl | exact ⟨rfl, rfl⟩ | exact ⟨rfl, rfl, rfl⟩ | exact ⟨rfl, rfl, rfl, rfl⟩ | exact ⟨rfl, rfl, rfl, rfl, rfl⟩ | exact congrArg (fun z : Int => E.v (.int .i64 z)) (wrap64_id (by omega) (by omega))) trivial) ⟨rfl, rfl, Nat.zero_le _, Nat.zero_le _⟩ ?_
  rintro ⟨i, acc⟩ ⟨ha, hi, il, hal⟩
  dsimp only at ha hi il hal ⊢
  repeat' (first | refine tr_seq ?_ | refine reg (T := tab) tOk hnt rfl ?_ ?_ | refine regD (T := tab) tOk mixedR hnt rfl (by decide +kernel) ?_ ?_ | refine tr_block ?_ | refine tr_skip ?_)
  · (dsimp only [AllP]; (repeat' first | exact trivial | assumption | exact Nat.le_of_ble_eq_true rfl | apply And.intro | decide | intro _ | exact rfl))
  repeat' (first | refine tr_seq ?_ | refine tr_block ?_ | refine tr_skip ?_)
  refine tr_cond rfl (fun hc => ?_) (fun hc => ?_)
  · have hc := of_decide_eq_true hc
    rw [hrl] at hc
    have hlt : i < q.rs.length := by omega
    have hg := rwsGet q.rs i hlt
    rw [drop_getD (d := []) hlt, rsB] at ha
    rw [drop_getD (d := []) hlt, rsF] at hi
    have hvs : ∀ v ∈ q.rs.getD i [], v.ok := h.vs _ (by rw [List.getD_eq_getElem?_getD, List.getElem?_eq_getElem hlt]; exact List.getElem_mem hlt)
    repeat' (first | refine tr_seq ?_ | refine tr_block ?_ | refine tr_skip ?_)
    first | refine reg (T := tab) tOk hnt rfl ?_ ?_ | refine regD (T := tab) tOk mixedR hnt rfl (by decide +kernel) ?_ ?_
    · rw [Int.toNat_natCast, hg, hrl]
      (dsimp only [AllP]; (repeat' first | exact trivial | assumption | exact Nat.le_of_ble_eq_true rfl | apply And.intro | exact eCells_len1 _ _ ‹_› | exact eCells_isByte _ _ ‹_› | (intro hh_; have hg_ := hh_; (try simp only [condT_ff, condF_tt, notE_t, notE_f, Bool.and_eq_true, ne_eq, decide_eq_true_eq, decide_eq_false_iff_not] at hg_)) | intro _ | exact rfl | omega))
    rw [Int.toNat_natCast, hg]
    generalize q.rs.getD i [] = r at *
    have h4 := RowBytes_fn m r 0 hvs
    have hel := encF_len r 0
    have hok := encF_ok (r := r) (d := 0)
    unfold rwB at ha
    generalize encF r 0 = z at *
    obtain ⟨b, e⟩ := z
    dsimp only at hel hok ha hi
    repeat' (first | refine tr_seq ?_ | refine tr_block ?_ | refine tr_skip ?_)
    refine tr_region (lex (T := tab) tOk hnt rfl ?_ (callV rfl rfl rfl rfl rfl rfl rfl hnt (glM rfl rfl rfl) (h4) (lex (T := tab) tOk hnt rfl ?_ (Lex.nil _)))) ?_
    · (dsimp only [AllP]; (repeat' first | exact trivial | assumption | exact Nat.le_of_ble_eq_true rfl | apply And.intro | exact eCells_len1 _ _ ‹_› | exact eCells_isByte _ _ ‹_› | (intro hh_; have hg_ := hh_; (try simp only [condT_ff, condF_tt, notE_t, notE_f, Bool.and_eq_true, ne_eq, decide_eq_true_eq, decide_eq_false_iff_not] at hg_)) | intro _ | exact rfl | omega))
    · (dsimp only [AllP]; (repeat' first | exact trivial | assumption | exact Nat.le_of_ble_eq_true rfl | apply And.intro | exact eCells_len1 _ _ ‹_› | exact eCells_isByte _ _ ‹_› | (intro hh_; have hg_ := hh_; (try simp only [condT_ff, condF_tt, notE_t, notE_f, Bool.and_eq_true, ne_eq, decide_eq_true_eq, decide_eq_false_iff_not] at hg_)) | intro _ | exact rfl | omega))
    repeat' (first | refine tr_seq ?_ | refine reg (T := tab) tOk hnt rfl ?_ ?_ | refine regD (T := tab) tOk mixedR hnt rfl (by decide +kernel) ?_ ?_ | refine tr_block ?_ | refine tr_skip ?_)
    · (dsimp only [AllP]; (repeat' first | exact trivial | assumption | exact Nat.le_of_ble_eq_true rfl | apply And.intro | decide | intro _ | exact rfl))
    repeat' (first | refine tr_seq ?_ | refine tr_block ?_ | refine tr_skip ?_)
    refine tr_cond rfl (fun hc => ?_) (fun hc => ?_)
    · simp only [condT_tt, condT_ff, condF_tt, condF_ff, notE_t, notE_f, decide_eq_true_eq, decide_eq_false_iff_not] at hc
      rw [if_pos hc] at hi
      rw [← hi, if_pos hc]
      repeat' (first | refine tr_seq ?_ | refine reg (T := tab) tOk hnt rfl ?_ ?_ | refine regD (T := tab) tOk mixedR hnt rfl (by decide +kernel) ?_ ?_ | refine tr_block ?_ | refine tr_skip ?_)
      · (dsimp only [AllP]; (repeat' first | exact trivial | assumption | exact Nat.le_of_ble_eq_true rfl | apply And.intro | decide | intro _ | exact rfl))
      refine tr_ret ⟨.inr rfl, _, _, rfl, by (repeat' first | exact trivial | exact Nat.le_of_ble_eq_true rfl | apply And.intro), ?_⟩
      exact rfl
    simp only [condT_tt, condT_ff, condF_tt, condF_ff, notE_t, notE_f, decide_eq_true_eq, decide_eq_false_iff_not] at hc
    rw [if_neg (not_not_intro hc)] at hi
    have hr5 := hok hc
    have e1 : ([eRow r].getD 0 E.dflt).xs.length = r.length := List.length_map ..
    have e2 : (eCells b).length = b.length := eCells_length b
    have k1 := big_fn r.length 1 (by decide)
    have k2 := big_fn b.length 2 (by decide)
    have x1 : IntKind.u64.wrap (([eRow r].getD 0 E.dflt).xs.length : Int) = (r.length : Int) := by rw [e1, u64i (by omega) (by omega)]; rfl
    have x2 : IntKind.u64.wrap ((eCells b).length : Int) = (b.length : Int) := by rw [e2, u64i (by omega) (by omega)]; rfl
    rw [← x1] at k1
    rw [← x2] at k2
    have hby := eCells_isByte b
    have hz1 : (strB (bigF r.length 1)).size = 1 := by rw [strB_size, bigF_len]
    have hz2 : (strB (bigF b.length 2)).size = 2 := by rw [strB_size, bigF_len]
    have hap : strB (hdB q ++ acc) ++ (strB (bigF r.length 1) ++ strB (bigF b.length 2) ++ bytesOf (eCells b)) = strB (hdB q ++ (acc ++ (UInt8.ofNat r.length :: UInt8.ofNat (b.length / 256) :: UInt8.ofNat b.length :: b))) := by
      rw [strB_of, strB_app, strB_app, strB_app]
      congr 1
    repeat' (first | refine tr_seq ?_ | refine tr_block ?_ | refine tr_skip ?_)
    refine tr_draw (T := tab) tOk hnt mixedR (lexD (T := tab) rfl ?_ (callD rfl rfl rfl rfl rfl rfl rfl rfl (k1) (lexD (T := tab) rfl ?_ (callD rfl rfl rfl rfl rfl rfl rfl rfl (k2) (lexD (T := tab) rfl ?_ (.nil _)))))) (by decide +kernel) ?_
    · (dsimp only [AllP]; (repeat' first | exact trivial | assumption | exact Nat.le_of_ble_eq_true rfl | apply And.intro | exact eCells_len1 _ _ ‹_› | exact eCells_isByte _ _ ‹_› | (intro hh_; have hg_ := hh_; (try simp only [condT_ff, condF_tt, notE_t, notE_f, Bool.and_eq_true, ne_eq, decide_eq_true_eq, decide_eq_false_iff_not] at hg_)) | intro _ | exact rfl | omega))
    · (dsimp only [AllP]; (repeat' first | exact trivial | assumption | exact Nat.le_of_ble_eq_true rfl | apply And.intro | exact eCells_len1 _ _ ‹_› | exact eCells_isByte _ _ ‹_› | (intro hh_; have hg_ := hh_; (try simp only [condT_ff, condF_tt, notE_t, notE_f, Bool.and_eq_true, ne_eq, decide_eq_true_eq, decide_eq_false_iff_not] at hg_)) | intro _ | exact rfl | omega))
    · (dsimp only [AllP]; (repeat' first | exact trivial | assumption | exact Nat.le_of_ble_eq_true rfl | apply And.intro | exact eCells_len1 _ _ ‹_› | exact eCells_isByte _ _ ‹_› | (intro hh_; have hg_ := hh_; (try simp only [condT_ff, condF_tt, notE_t, notE_f, Bool.and_eq_true, ne_eq, decide_eq_true_eq, decide_eq_false_iff_not] at hg_)) | intro _ | exact rfl | omega))
      all_goals (simp only [strB_of, strB_app, strB_size, List.length_append, bigF_len, hdB, List.length_cons, List.length_nil, maxLen]; omega)
    rw [hap]
    repeat' (first | refine tr_seq ?_ | refine reg (T := tab) tOk hnt rfl ?_ ?_ | refine regD (T := tab) tOk mixedR hnt rfl (by decide +kernel) ?_ ?_ | refine tr_block ?_ | refine tr_skip ?_)
    · (dsimp only [AllP]; (repeat' first | exact trivial | assumption | exact Nat.le_of_ble_eq_true rfl | apply And.intro | decide | intro _ | exact rfl))
    rw [← List.append_assoc] at ha
    refine ⟨(i + 1, acc ++ (UInt8.ofNat r.length :: UInt8.ofNat (b.length / 256) :: UInt8.ofNat b.length :: b)), ⟨ha, hi, by dsimp only; omega, by dsimp only; rw [List.length_append, List.length_cons, List.length_cons, List.length_cons]; omega⟩, by dsimp only; omega, le_of (ad := []) (by refine ⟨?_, ?_, ?_, ?_, ?_, ?_, ?_, trivial⟩ <;> first | exact trivial | rfl | exact ⟨rfl, rfl⟩ | exact ⟨rfl, rfl, rfl⟩ | exact ⟨rfl, rfl, rfl, rfl⟩ | exact ⟨rfl, rfl, rfl, rfl, rfl⟩ | exact congrArg (fun z : Int => E.v (.int .i64 z)) (wrap64_id (by omega) (by omega))) trivial⟩
  have hc := of_decide_eq_false hc
  rw [hrl] at hc
  refine tr_exit ?_
  rw [List.drop_eq_nil_of_le (by omega), rsF] at hi
  rw [List.drop_eq_nil_of_le (by omega), rsB, List.append_nil] at ha
  rw [if_neg (not_not_intro hi.symm), ← ha]
  have hz : (strB (hdB q ++ acc)).size ≤ maxLen := by
    rw [strB_size]
    simp only [List.length_append, List.length_cons, List.length_nil, hdB, maxLen]
    omega
  repeat' (first | refine tr_seq ?_ | refine tr_block ?_ | refine tr_skip ?_)
  first | refine reg (T := tab) tOk hnt rfl ?_ ?_ | refine regD (T := tab) tOk mixedR hnt rfl (by decide +kernel) ?_ ?_
  · (dsimp only [AllP]; (repeat' first | exact trivial | assumption | exact Nat.le_of_ble_eq_true rfl | apply And.intro | exact eCells_len1 _ _ ‹_› | exact eCells_isByte _ _ ‹_› | (intro hh_; have hg_ := hh_; (try simp only [condT_ff, condF_tt, notE_t, notE_f, Bool.and_eq_true, ne_eq, decide_eq_true_eq, decide_eq_false_iff_not] at hg_)) | intro _ | exact rfl | omega))
  repeat' (first | refine tr_seq ?_ | refine tr_block ?_ | refine tr_skip ?_)
  rw [strBytes_B]
  refine tr_ret ⟨.inr rfl, _, _, rfl, by (repeat' first | exact trivial | exact Nat.le_of_ble_eq_true rfl | apply And.intro), ?_⟩
  exact rfl
end Go.Proofs.YtekdhbekliajjaaDoor
