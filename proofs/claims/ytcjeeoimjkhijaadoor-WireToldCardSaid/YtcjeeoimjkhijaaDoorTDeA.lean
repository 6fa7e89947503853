/- utf8.Valid (of bytes). No condition. -/
import Derived.Test.YtcjeeoimjkhijaaDoorTVld
import Derived.Test.YtcjeeoimjkhijaaDoorAbI
import Derived.Test.YtcjeeoimjkhijaaDoorTVal
import Derived.Test.YtcjeeoimjkhijaaDoorTKinA
namespace Go.Proofs.YtcjeeoimjkhijaaDoor
open Go Go.RowKit Go.Proofs.YtcjeeoimjkhijaaDoor.Ab
set_option linter.unusedSimpArgs false
set_option linter.unusedVariables false

theorem cI (x : Byt) (i : Nat) : (((eCells x).getD i []).getD 0 E.dflt).int = bI x i := by
  by_cases h : i < x.length
  · exact rdB x i h
  · have h1 : (eCells x).getD i [] = [] := by rw [List.getD_eq_getElem?_getD, List.getElem?_eq_none (by rw [eCells_length]; omega)]; rfl
    have h2 : x.getD i 0 = 0 := by rw [List.getD_eq_getElem?_getD, List.getElem?_eq_none (by omega)]; rfl
    unfold bI
    rw [h1, h2]
    rfl
set_option maxRecDepth 10000 in
set_option maxHeartbeats 2000000 in
theorem wordB_fn (l : Byt) (h : 8 ≤ l.length) : FnD Tryd.prog 101 [.one (.e (eBytes l))] (.one (.e (eQ (wdQ l)))) := by
  refine fn_intro (T := tab) tOk Tryd.func101 rfl (by kernel_rfl) (by simp [Tryd.ntmps101]) ?_
  intro X hX
  have hnt : X.nt = 71 := hX
  clear hX
  have hl : (eCells l).length = l.length := eCells_length l
  have r0 := rdL l 0 (by omega)
  have r1 := rdL l 1 (by omega)
  have r2 := rdL l 2 (by omega)
  have r3 := rdL l 3 (by omega)
  have r4 := rdL l 4 (by omega)
  have r5 := rdL l 5 (by omega)
  have r6 := rdL l 6 (by omega)
  have r7 := rdL l 7 (by omega)
  have a0 := rdA l 0 (by omega)
  have a1 := rdA l 1 (by omega)
  have a2 := rdA l 2 (by omega)
  have a3 := rdA l 3 (by omega)
  have a4 := rdA l 4 (by omega)
  have a5 := rdA l 5 (by omega)
  have a6 := rdA l 6 (by omega)
  have a7 := rdA l 7 (by omega)
  have c0 := rdC l 0 (by omega)
  have c1 := rdC l 1 (by omega)
  have c2 := rdC l 2 (by omega)
  have c3 := rdC l 3 (by omega)
  have c4 := rdC l 4 (by omega)
  have c5 := rdC l 5 (by omega)
  have c6 := rdC l 6 (by omega)
  have c7 := rdC l 7 (by omega)
  repeat' (first | refine tr_seq ?_ | refine reg (T := tab) tOk hnt rfl ?_ ?_ | refine regD (T := tab) tOk mixedR hnt rfl (by decide +kernel) ?_ ?_ | refine tr_block ?_ | refine tr_skip ?_)
  · (dsimp only [AllP]; (repeat' first | exact trivial | assumption | exact Nat.le_of_ble_eq_true rfl | apply And.intro | decide | intro _ | exact rfl))
  refine tr_cond rfl (fun h => nomatch (show false = true from h)) (fun _ => ?_)
  repeat' (first | refine tr_seq ?_ | refine reg (T := tab) tOk hnt rfl ?_ ?_ | refine regD (T := tab) tOk mixedR hnt rfl (by decide +kernel) ?_ ?_ | refine tr_block ?_ | refine tr_skip ?_)
  · rw [hl]
    (dsimp only [AllP]; (repeat' first | exact trivial | assumption | exact Nat.le_of_ble_eq_true rfl | apply And.intro | exact eCells_len1 _ _ ‹_› | exact eCells_isByte _ _ ‹_› | (intro hh_; have hg_ := hh_; (try simp only [condT_ff, condF_tt, notE_t, notE_f, Bool.and_eq_true, ne_eq, decide_eq_true_eq, decide_eq_false_iff_not] at hg_)) | intro _ | exact rfl | omega))
    all_goals trace_state
  repeat' (first | refine tr_seq ?_ | refine tr_block ?_ | refine tr_skip ?_)
  refine tr_ret ⟨.inr rfl, _, _, rfl, trivial, ?_⟩
  refine congrArg (fun z : Int => D.one (D0.e (E.v (.int .u64 z)))) ?_
  have cI' : ∀ i, (((eCells l).getD i []).getD 0 E.dflt).int = ((l.getD i 0).toNat : Int) := cI l
  simp only [show Int.toNat 0 = 0 from rfl, show Int.toNat 1 = 1 from rfl, show Int.toNat 2 = 2 from rfl, show Int.toNat 3 = 3 from rfl, show Int.toNat 4 = 4 from rfl, show Int.toNat 5 = 5 from rfl, show Int.toNat 6 = 6 from rfl, show Int.toNat 7 = 7 from rfl, cI', show min (Int.toNat 8) IntKind.u64.bits = 8 from rfl, show min (Int.toNat 16) IntKind.u64.bits = 16 from rfl, show min (Int.toNat 24) IntKind.u64.bits = 24 from rfl, show min (Int.toNat 32) IntKind.u64.bits = 32 from rfl, show min (Int.toNat 40) IntKind.u64.bits = 40 from rfl, show min (Int.toNat 48) IntKind.u64.bits = 48 from rfl, show min (Int.toNat 56) IntKind.u64.bits = 56 from rfl, q_byte, q_shl, q_or]
  rfl
theorem len_ofB {c : Bool} {x : Byt} {n : Int} (h : (bif decide (n < ((eCells x).length : Int)) then c else false) = true) : n < (x.length : Int) ∧ c = true := by
  rw [eCells_length] at h
  cases hd : decide (n < (x.length : Int)) with
  | true => rw [hd] at h; exact ⟨of_decide_eq_true hd, h⟩
  | false => rw [hd] at h; cases h
theorem sl_k (x : Byt) (k : Int) (n : Nat) (h : k.toNat = n) : List.take (Int.toNat ((eCells x).length : Int) - k.toNat) (List.drop k.toNat (eCells x)) = eCells (x.drop n) := by
  subst h
  rw [eCells_length, Int.toNat_natCast, eCells_drop, List.take_of_length_le (by rw [eCells_length, List.length_drop]; omega)]
theorem wordB_sl (x : Byt) (k : Int) (n : Nat) (hk : k.toNat = n) (h : 8 ≤ (x.drop n).length) : FnD Tryd.prog 101 [.one (.e (.sl (List.take (Int.toNat ((eCells x).length : Int) - k.toNat) (List.drop k.toNat (eCells x)))))] (.one (.e (eQ (wdQ (x.drop n))))) := by
  rw [sl_k x k n hk]
  exact wordB_fn (x.drop n) h
set_option maxRecDepth 10000 in
set_option maxHeartbeats 2000000 in
theorem validB_fn (l : Byt) (hml : l.length ≤ maxLen) : FnG Tryd.prog 96 gK [.one (.e (eBytes l))] (.v (.bool (vld l))) := by
  refine fn_introG (T := tab) tOk Tryd.func96 rfl (by kernel_rfl) (by simp [Tryd.ntmps96]) ?_
  intro X hX
  have hnt : X.nt = 188 := hX
  clear hX
  have hl0 : (eCells l).length = l.length := eCells_length l
  have h10 := eCells_len1 l
  repeat' (first | refine tr_seq ?_ | refine tr_block ?_ | refine tr_skip ?_)
  first | refine reg (T := tab) tOk hnt rfl ?_ ?_ | refine regD (T := tab) tOk mixedR hnt rfl (by decide +kernel) ?_ ?_
  · (dsimp only [AllP]; (repeat' first | exact trivial | assumption | exact Nat.le_of_ble_eq_true rfl | apply And.intro | decide | intro _ | exact rfl))
  repeat' (first | refine tr_seq ?_ | refine tr_block ?_ | refine tr_skip ?_)
  first | refine reg (T := tab) tOk hnt rfl ?_ ?_ | refine regD (T := tab) tOk mixedR hnt rfl (by decide +kernel) ?_ ?_
  · rw [hl0]
    (dsimp only [AllP]; (repeat' first | exact trivial | assumption | exact Nat.le_of_ble_eq_true rfl | apply And.intro | exact eCells_len1 _ _ ‹_› | exact eCells_isByte _ _ ‹_› | (intro hh_; have hg_ := hh_; (try simp only [condT_ff, condF_tt, notE_t, notE_f, Bool.and_eq_true, ne_eq, decide_eq_true_eq, decide_eq_false_iff_not] at hg_)) | intro _ | exact rfl | omega))
    all_goals first | exact rdC _ _ (by omega) | exact rdA _ _ (by omega) | exact rdL _ _ (by omega)
  rw [show List.take (Int.toNat ((eCells l).length : Int) - Int.toNat 0) (List.drop (Int.toNat 0) (eCells l)) = eCells l from sl_k l 0 0 rfl]
  repeat' (first | refine tr_seq ?_ | refine tr_block ?_ | refine tr_skip ?_)
  refine tr_loop (σ := Byt) (fun x => St.of [(0, .one (.e (eBytes x))), ((1000000 + 0), .one (.eptr fsE)), ((1000000 + 1), .one (.eptr acE))] []) (fun x => vld x = vld l) (fun x => x.length) (l) (le_of (ad := []) (by refine ⟨?_, ?_, ?_, trivial⟩ <;> first | exact trivial | rfl | exact ⟨rfl, rfl⟩ | exact ⟨rfl, rfl, rfl⟩ | exact ⟨rfl, rfl, rfl, rfl⟩ | exact ⟨rfl, rfl, rfl, rfl, rfl⟩ | exact congrArg (fun z : Int => E.v (.int .i64 z)) (wrap64_id (by omega) (by omega)) | (refine ⟨rfl, ?_⟩; repeat' first | exact trivial | rfl | apply And.intro)) trivial) rfl ?_
  rintro x hx
  have hl : (eCells x).length = x.length := eCells_length x
  have h1x := eCells_len1 x
  repeat' (first | refine tr_seq ?_ | refine reg (T := tab) tOk hnt rfl ?_ ?_ | refine regD (T := tab) tOk mixedR hnt rfl (by decide +kernel) ?_ ?_ | refine tr_block ?_ | refine tr_skip ?_)
  · (dsimp only [AllP]; (repeat' first | exact trivial | assumption | exact Nat.le_of_ble_eq_true rfl | apply And.intro | decide | intro _ | exact rfl))
  repeat' (first | refine tr_seq ?_ | refine tr_block ?_ | refine tr_skip ?_)
  refine tr_cond rfl (fun hc => ?_) (fun hc => ?_)
  · have hc : (0 : Int) < ((eCells x).length : Int) := of_decide_eq_true hc
    have hpos : 0 < x.length := by omega
    have hne : x ≠ [] := List.length_pos_iff.1 hpos
    repeat' (first | refine tr_seq ?_ | refine tr_block ?_ | refine tr_skip ?_)
    first | refine reg (T := tab) tOk hnt rfl ?_ ?_ | refine regD (T := tab) tOk mixedR hnt rfl (by decide +kernel) ?_ ?_
    · rw [hl]
      (dsimp only [AllP]; (repeat' first | exact trivial | assumption | exact Nat.le_of_ble_eq_true rfl | apply And.intro | exact eCells_len1 _ _ ‹_› | exact eCells_isByte _ _ ‹_› | (intro hh_; have hg_ := hh_; (try simp only [condT_ff, condF_tt, notE_t, notE_f, Bool.and_eq_true, ne_eq, decide_eq_true_eq, decide_eq_false_iff_not] at hg_)) | intro _ | exact rfl | omega))
      all_goals first | exact rdC _ _ (by omega) | exact rdA _ _ (by omega) | exact rdL _ _ (by omega)
    obtain ⟨a, ha⟩ : ∃ a, x.getD 0 0 = a := ⟨_, rfl⟩
    have ha' : (((eCells x).getD (Int.toNat 0) []).getD 0 E.dflt).int = (a.toNat : Int) := (cI x 0).trans (congrArg (fun z : UInt8 => (z.toNat : Int)) ha)
    rw [ha']
    repeat' (first | refine tr_seq ?_ | refine tr_block ?_ | refine tr_skip ?_)
    first | refine reg (T := tab) tOk hnt rfl ?_ ?_ | refine regD (T := tab) tOk mixedR hnt rfl (by decide +kernel) ?_ ?_
    · (dsimp only [AllP]; (repeat' first | exact trivial | assumption | exact Nat.le_of_ble_eq_true rfl | apply And.intro | decide | intro _ | exact rfl))
    repeat' (first | refine tr_seq ?_ | refine tr_block ?_ | refine tr_skip ?_)
    refine tr_cond rfl (fun hc => ?_) (fun hc => ?_)
    · have hc : ((a.toNat : Int)) < 128 := of_decide_eq_true hc
      have v1 := vld_ascii hne (by rw [ha]; omega)
      repeat' (first | refine tr_seq ?_ | refine tr_block ?_ | refine tr_skip ?_)
      first | refine reg (T := tab) tOk hnt rfl ?_ ?_ | refine regD (T := tab) tOk mixedR hnt rfl (by decide +kernel) ?_ ?_
      · rw [hl]
        (dsimp only [AllP]; (repeat' first | exact trivial | assumption | exact Nat.le_of_ble_eq_true rfl | apply And.intro | exact eCells_len1 _ _ ‹_› | exact eCells_isByte _ _ ‹_› | (intro hh_; have hg_ := hh_; (try simp only [condT_ff, condF_tt, notE_t, notE_f, Bool.and_eq_true, ne_eq, decide_eq_true_eq, decide_eq_false_iff_not] at hg_)) | intro _ | exact rfl | omega))
        all_goals first | exact rdC _ _ (by omega) | exact rdA _ _ (by omega) | exact rdL _ _ (by omega)
      rw [sl_k x 1 1 rfl]
      have hyl : (x.drop 1).length = x.length - 1 := List.length_drop
      generalize x.drop 1 = y at *
      have hly : (eCells y).length = y.length := eCells_length y
      repeat' (first | refine tr_seq ?_ | refine tr_block ?_ | refine tr_skip ?_)
      refine tr_region (lex (T := tab) tOk hnt rfl ?_ (callG rfl rfl rfl rfl rfl rfl hnt rfl (fun hq => ?_) (fun hq => wordB_fn y (by have h := of_decide_eq_true hq; omega)) (lex (T := tab) tOk hnt rfl ?_ (Lex.nil _)))) ?_
      · (dsimp only [AllP]; (repeat' first | exact trivial | assumption | exact Nat.le_of_ble_eq_true rfl | apply And.intro | decide | intro _ | exact rfl))
      · (dsimp only [AllP]; (repeat' first | exact trivial | assumption | exact Nat.le_of_ble_eq_true rfl | apply And.intro | decide | intro _ | exact rfl))
      · (dsimp only [AllP]; (repeat' first | exact trivial | assumption | exact Nat.le_of_ble_eq_true rfl | apply And.intro | decide | intro _ | exact rfl))
      repeat' (first | refine tr_seq ?_ | refine tr_block ?_ | refine tr_skip ?_)
      refine tr_cond rfl (fun hc => ?_) (fun hc => ?_)
      · have h8 : 8 < y.length := by
          cases h : decide ((8 : Int) < ((eCells y).length : Int)) with
          | true => have := of_decide_eq_true h; omega
          | false => rw [h] at hc; cases hc
        have hz : hiz (wdQ y) := hiz_dec (by
          cases h : decide ((8 : Int) < ((eCells y).length : Int)) with
          | true => rw [h] at hc; exact hc
          | false => rw [h] at hc; cases hc)
        clear hc
        have v2 := vld_word (Nat.le_of_lt h8) hz
        repeat' (first | refine tr_seq ?_ | refine tr_block ?_ | refine tr_skip ?_)
        first | refine reg (T := tab) tOk hnt rfl ?_ ?_ | refine regD (T := tab) tOk mixedR hnt rfl (by decide +kernel) ?_ ?_
        · rw [hly]
          (dsimp only [AllP]; (repeat' first | exact trivial | assumption | exact Nat.le_of_ble_eq_true rfl | apply And.intro | exact eCells_len1 _ _ ‹_› | exact eCells_isByte _ _ ‹_› | (intro hh_; have hg_ := hh_; (try simp only [condT_ff, condF_tt, notE_t, notE_f, Bool.and_eq_true, ne_eq, decide_eq_true_eq, decide_eq_false_iff_not] at hg_)) | intro _ | exact rfl | omega))
          all_goals first | exact rdC _ _ (by omega) | exact rdA _ _ (by omega) | exact rdL _ _ (by omega)
        rw [sl_k y 8 8 rfl]
        have hul : (y.drop 8).length = y.length - 8 := List.length_drop
        generalize y.drop 8 = u at *
        have hlu : (eCells u).length = u.length := eCells_length u
        repeat' (first | refine tr_seq ?_ | refine tr_block ?_ | refine tr_skip ?_)
        refine tr_draw (T := tab) tOk hnt mixedR (lexD (T := tab) rfl ?_ (callGD rfl rfl rfl rfl rfl rfl rfl rfl (fun hq => ?_) (fun hq => wordB_fn u (by have h := of_decide_eq_true hq; omega)) (lexD (T := tab) rfl ?_ (callGD rfl rfl rfl rfl rfl rfl rfl rfl (fun hq => ?_) (fun hq => wordB_sl u 8 8 rfl (by have h := of_decide_eq_true hq; rw [List.length_drop]; omega)) (lexD (T := tab) rfl ?_ (.nil _)))))) (by decide +kernel) ?_
        · (dsimp only [AllP]; (repeat' first | exact trivial | assumption | exact Nat.le_of_ble_eq_true rfl | apply And.intro | decide | intro _ | exact rfl))
        · (dsimp only [AllP]; (repeat' first | exact trivial | assumption | exact Nat.le_of_ble_eq_true rfl | apply And.intro | decide | intro _ | exact rfl))
        · rw [hlu]
          (dsimp only [AllP]; (repeat' first | exact trivial | assumption | exact Nat.le_of_ble_eq_true rfl | apply And.intro | exact eCells_len1 _ _ ‹_› | exact eCells_isByte _ _ ‹_› | (intro hh_; have hg_ := hh_; (try simp only [condT_ff, condF_tt, notE_t, notE_f, Bool.and_eq_true, ne_eq, decide_eq_true_eq, decide_eq_false_iff_not] at hg_)) | intro _ | exact rfl | omega))
          all_goals first | exact rdC _ _ (by omega) | exact rdA _ _ (by omega) | exact rdL _ _ (by omega)
        · (dsimp only [AllP]; (repeat' first | exact trivial | assumption | exact Nat.le_of_ble_eq_true rfl | apply And.intro | decide | intro _ | exact rfl))
        · (dsimp only [AllP]; (repeat' first | exact trivial | assumption | exact Nat.le_of_ble_eq_true rfl | apply And.intro | decide | intro _ | exact rfl))
        repeat' (first | refine tr_seq ?_ | refine tr_block ?_ | refine tr_skip ?_)
        refine tr_cond rfl (fun hc => ?_) (fun hc => ?_)
        · obtain ⟨h16, hz2⟩ := len_ofB hc
          have hz2 := hiz_dec2 hz2
          clear hc
          have v3 := vld_words (x := u) 2 (by omega) (fun i hi => match i, hi with | 0, _ => hz2.1 | 1, _ => hz2.2)
          repeat' (first | refine tr_seq ?_ | refine tr_block ?_ | refine tr_skip ?_)
          first | refine reg (T := tab) tOk hnt rfl ?_ ?_ | refine regD (T := tab) tOk mixedR hnt rfl (by decide +kernel) ?_ ?_
          · rw [hlu]
            (dsimp only [AllP]; (repeat' first | exact trivial | assumption | exact Nat.le_of_ble_eq_true rfl | apply And.intro | exact eCells_len1 _ _ ‹_› | exact eCells_isByte _ _ ‹_› | (intro hh_; have hg_ := hh_; (try simp only [condT_ff, condF_tt, notE_t, notE_f, Bool.and_eq_true, ne_eq, decide_eq_true_eq, decide_eq_false_iff_not] at hg_)) | intro _ | exact rfl | omega))
            all_goals first | exact rdC _ _ (by omega) | exact rdA _ _ (by omega) | exact rdL _ _ (by omega)
          rw [sl_k u 16 16 rfl]
          have hsl : (u.drop 16).length = u.length - 16 := List.length_drop
          have v3 : vld (u.drop 16) = vld u := v3
          generalize u.drop 16 = s at *
          repeat' (first | refine tr_seq ?_ | refine tr_block ?_ | refine tr_skip ?_)
          refine tr_loop (σ := Byt) (fun z => St.of [(0, .one (.e (eBytes z))), ((1000000 + 0), .one (.eptr fsE)), ((1000000 + 1), .one (.eptr acE))] []) (fun z => vld z = vld l ∧ z.length < x.length) (fun z => z.length) (s) (le_of (ad := []) (by refine ⟨?_, ?_, ?_, trivial⟩ <;> first | exact trivial | rfl | exact ⟨rfl, rfl⟩ | exact ⟨rfl, rfl, rfl⟩ | exact ⟨rfl, rfl, rfl, rfl⟩ | exact ⟨rfl, rfl, rfl, rfl, rfl⟩ | exact congrArg (fun z : Int => E.v (.int .i64 z)) (wrap64_id (by omega) (by omega)) | (refine ⟨rfl, ?_⟩; repeat' first | exact trivial | rfl | apply And.intro)) trivial) ⟨(v3.trans v2).trans (v1.trans hx), by omega⟩ ?_
          rintro z ⟨hz, hzl⟩
          have hlz : (eCells z).length = z.length := eCells_length z
          repeat' (first | refine tr_seq ?_ | refine tr_block ?_ | refine tr_skip ?_)
          refine tr_draw (T := tab) tOk hnt mixedR (lexD (T := tab) rfl ?_ (callGD rfl rfl rfl rfl rfl rfl rfl rfl (fun hq => ?_) (fun hq => wordB_fn z (by have h := of_decide_eq_true hq; omega)) (lexD (T := tab) rfl ?_ (callGD rfl rfl rfl rfl rfl rfl rfl rfl (fun hq => ?_) (fun hq => wordB_sl z 8 8 rfl (by have h := of_decide_eq_true hq; rw [List.length_drop]; omega)) (lexD (T := tab) rfl ?_ (callGD rfl rfl rfl rfl rfl rfl rfl rfl (fun hq => ?_) (fun hq => wordB_sl z 16 16 rfl (by have h := of_decide_eq_true hq; rw [List.length_drop]; omega)) (lexD (T := tab) rfl ?_ (callGD rfl rfl rfl rfl rfl rfl rfl rfl (fun hq => ?_) (fun hq => wordB_sl z 24 24 rfl (by have h := of_decide_eq_true hq; rw [List.length_drop]; omega)) (lexD (T := tab) rfl ?_ (.nil _)))))))))) (by decide +kernel) ?_
          · (dsimp only [AllP]; (repeat' first | exact trivial | assumption | exact Nat.le_of_ble_eq_true rfl | apply And.intro | decide | intro _ | exact rfl))
          · (dsimp only [AllP]; (repeat' first | exact trivial | assumption | exact Nat.le_of_ble_eq_true rfl | apply And.intro | decide | intro _ | exact rfl))
          · rw [hlz]
            (dsimp only [AllP]; (repeat' first | exact trivial | assumption | exact Nat.le_of_ble_eq_true rfl | apply And.intro | exact eCells_len1 _ _ ‹_› | exact eCells_isByte _ _ ‹_› | (intro hh_; have hg_ := hh_; (try simp only [condT_ff, condF_tt, notE_t, notE_f, Bool.and_eq_true, ne_eq, decide_eq_true_eq, decide_eq_false_iff_not] at hg_)) | intro _ | exact rfl | omega))
            all_goals first | exact rdC _ _ (by omega) | exact rdA _ _ (by omega) | exact rdL _ _ (by omega)
          · (dsimp only [AllP]; (repeat' first | exact trivial | assumption | exact Nat.le_of_ble_eq_true rfl | apply And.intro | decide | intro _ | exact rfl))
          · rw [hlz]
            (dsimp only [AllP]; (repeat' first | exact trivial | assumption | exact Nat.le_of_ble_eq_true rfl | apply And.intro | exact eCells_len1 _ _ ‹_› | exact eCells_isByte _ _ ‹_› | (intro hh_; have hg_ := hh_; (try simp only [condT_ff, condF_tt, notE_t, notE_f, Bool.and_eq_true, ne_eq, decide_eq_true_eq, decide_eq_false_iff_not] at hg_)) | intro _ | exact rfl | omega))
            all_goals first | exact rdC _ _ (by omega) | exact rdA _ _ (by omega) | exact rdL _ _ (by omega)
          · (dsimp only [AllP]; (repeat' first | exact trivial | assumption | exact Nat.le_of_ble_eq_true rfl | apply And.intro | decide | intro _ | exact rfl))
          · rw [hlz]
            (dsimp only [AllP]; (repeat' first | exact trivial | assumption | exact Nat.le_of_ble_eq_true rfl | apply And.intro | exact eCells_len1 _ _ ‹_› | exact eCells_isByte _ _ ‹_› | (intro hh_; have hg_ := hh_; (try simp only [condT_ff, condF_tt, notE_t, notE_f, Bool.and_eq_true, ne_eq, decide_eq_true_eq, decide_eq_false_iff_not] at hg_)) | intro _ | exact rfl | omega))
            all_goals first | exact rdC _ _ (by omega) | exact rdA _ _ (by omega) | exact rdL _ _ (by omega)
          · (dsimp only [AllP]; (repeat' first | exact trivial | assumption | exact Nat.le_of_ble_eq_true rfl | apply And.intro | decide | intro _ | exact rfl))
          · (dsimp only [AllP]; (repeat' first | exact trivial | assumption | exact Nat.le_of_ble_eq_true rfl | apply And.intro | decide | intro _ | exact rfl))
          repeat' (first | refine tr_seq ?_ | refine tr_block ?_ | refine tr_skip ?_)
          refine tr_cond rfl (fun hc => ?_) (fun hc => ?_)
          · obtain ⟨h32, hz4⟩ := len_ofB hc
            have hz4 := hiz_dec4 hz4
            clear hc
            have v4 := vld_words (x := z) 4 (by omega) (fun i hi => match i, hi with | 0, _ => hz4.1.1 | 1, _ => hz4.1.2 | 2, _ => hz4.2.1 | 3, _ => hz4.2.2)
            repeat' (first | refine tr_seq ?_ | refine tr_block ?_ | refine tr_skip ?_)
            first | refine reg (T := tab) tOk hnt rfl ?_ ?_ | refine regD (T := tab) tOk mixedR hnt rfl (by decide +kernel) ?_ ?_
            · rw [hlz]
              (dsimp only [AllP]; (repeat' first | exact trivial | assumption | exact Nat.le_of_ble_eq_true rfl | apply And.intro | exact eCells_len1 _ _ ‹_› | exact eCells_isByte _ _ ‹_› | (intro hh_; have hg_ := hh_; (try simp only [condT_ff, condF_tt, notE_t, notE_f, Bool.and_eq_true, ne_eq, decide_eq_true_eq, decide_eq_false_iff_not] at hg_)) | intro _ | exact rfl | omega))
              all_goals first | exact rdC _ _ (by omega) | exact rdA _ _ (by omega) | exact rdL _ _ (by omega)
            rw [sl_k z 32 32 rfl]
            have hsl : (z.drop 32).length = z.length - 32 := List.length_drop
            have v4 : vld (z.drop 32) = vld z := v4
            generalize z.drop 32 = q at *
            repeat' (first | refine tr_seq ?_ | refine tr_block ?_ | refine tr_skip ?_)
            refine ⟨q, ?_, ?_, le_of (ad := []) ⟨rfl, rfl, rfl, trivial⟩ trivial⟩
            · exact ⟨v4.trans hz, by omega⟩
            · omega
          refine tr_exit ?_
          repeat' (first | refine tr_seq ?_ | refine tr_block ?_ | refine tr_skip ?_)
          refine tr_exit ?_
          refine ⟨z, ?_, ?_, le_of (ad := []) ⟨rfl, rfl, rfl, trivial⟩ trivial⟩
          · exact hz
          · exact hzl
        repeat' (first | refine tr_seq ?_ | refine tr_block ?_ | refine tr_skip ?_)
        refine tr_exit ?_
        refine ⟨u, ?_, ?_, le_of (ad := []) ⟨rfl, rfl, rfl, trivial⟩ trivial⟩
        · exact v2.trans (v1.trans hx)
        · omega
      repeat' (first | refine tr_seq ?_ | refine tr_block ?_ | refine tr_skip ?_)
      refine tr_exit ?_
      refine ⟨y, ?_, ?_, le_of (ad := []) ⟨rfl, rfl, rfl, trivial⟩ trivial⟩
      · exact v1.trans hx
      · omega
    have hc : ¬ ((a.toNat : Int)) < 128 := of_decide_eq_false hc
    have hst : stepU x = if sz a = 2 then (if bad2 x = true then none else some 2) else if sz a = 3 then (if bad3 x = true then none else some 3) else if sz a = 4 then (if bad4 x = true then none else some 4) else none := by
      unfold stepU
      rw [ha, if_neg (by omega)]
    have hv := vld_step hne
    have al := a.toNat_lt
    have f1 := fs_len a
    have f2 := fs_isA a
    repeat' (first | refine tr_seq ?_ | refine tr_block ?_ | refine tr_skip ?_)
    first | refine reg (T := tab) tOk hnt rfl ?_ ?_ | refine regD (T := tab) tOk mixedR hnt rfl (by decide +kernel) ?_ ?_
    · (dsimp only [AllP]; (repeat' first | exact trivial | assumption | exact Nat.le_of_ble_eq_true rfl | apply And.intro | exact eCells_len1 _ _ ‹_› | exact eCells_isByte _ _ ‹_› | (intro hh_; have hg_ := hh_; (try simp only [condT_ff, condF_tt, notE_t, notE_f, Bool.and_eq_true, ne_eq, decide_eq_true_eq, decide_eq_false_iff_not] at hg_)) | intro _ | exact rfl | omega))
      all_goals first | exact rdC _ _ (by omega) | exact rdA _ _ (by omega) | exact rdL _ _ (by omega)
    rw [tb_at a]
    clear f1 f2
    repeat' (first | refine tr_seq ?_ | refine tr_block ?_ | refine tr_skip ?_)
    first | refine reg (T := tab) tOk hnt rfl ?_ ?_ | refine regD (T := tab) tOk mixedR hnt rfl (by decide +kernel) ?_ ?_
    · (dsimp only [AllP]; (repeat' first | exact trivial | assumption | exact Nat.le_of_ble_eq_true rfl | apply And.intro | decide | intro _ | exact rfl))
    rw [sz_conv a]
    obtain ⟨g1, g2, g3⟩ := ac_ok a
    have g4 : (Cs.es (List.take 2 (List.drop 0 (List.drop (Int.toNat (Int.fdiv (tb a : Int) (2 ^ min (Int.toNat 4) IntKind.u8.bits)) * 2) acE)))).len = 2 := congrArg List.length (acc_at a)
    have g5 : 0 + 2 ≤ (Cs.es (List.drop (Int.toNat (Int.fdiv (tb a : Int) (2 ^ min (Int.toNat 4) IntKind.u8.bits)) * 2) acE)).len := by
      have : (List.take 2 (List.drop (Int.toNat (Int.fdiv (tb a : Int) (2 ^ min (Int.toNat 4) IntKind.u8.bits)) * 2) acE)).length = 2 := g4
      rw [List.length_take] at this
      show 0 + 2 ≤ List.length _
      omega
    repeat' (first | refine tr_seq ?_ | refine tr_block ?_ | refine tr_skip ?_)
    first | refine reg (T := tab) tOk hnt rfl ?_ ?_ | refine regD (T := tab) tOk mixedR hnt rfl (by decide +kernel) ?_ ?_
    · (dsimp only [AllP]; (repeat' first | exact trivial | assumption | exact Nat.le_of_ble_eq_true rfl | apply And.intro | exact eCells_len1 _ _ ‹_› | exact eCells_isByte _ _ ‹_› | (intro hh_; have hg_ := hh_; (try simp only [condT_ff, condF_tt, notE_t, notE_f, Bool.and_eq_true, ne_eq, decide_eq_true_eq, decide_eq_false_iff_not] at hg_)) | intro _ | exact rfl | omega))
      all_goals first | exact rdC _ _ (by omega) | exact rdA _ _ (by omega) | exact rdL _ _ (by omega)
    rw [acc_at a]
    clear g1 g2 g3 g4 g5
    repeat' (first | refine tr_seq ?_ | refine tr_block ?_ | refine tr_skip ?_)
    first | refine reg (T := tab) tOk hnt rfl ?_ ?_ | refine regD (T := tab) tOk mixedR hnt rfl (by decide +kernel) ?_ ?_
    · (dsimp only [AllP]; (repeat' first | exact trivial | assumption | exact Nat.le_of_ble_eq_true rfl | apply And.intro | decide | intro _ | exact rfl))
    repeat' (first | refine tr_seq ?_ | refine tr_block ?_ | refine tr_skip ?_)
    first | refine reg (T := tab) tOk hnt rfl ?_ ?_ | refine regD (T := tab) tOk mixedR hnt rfl (by decide +kernel) ?_ ?_
    · (dsimp only [AllP]; (repeat' first | exact trivial | assumption | exact Nat.le_of_ble_eq_true rfl | apply And.intro | decide | intro _ | exact rfl))
    repeat' (first | refine tr_seq ?_ | refine tr_block ?_ | refine tr_skip ?_)
    refine tr_cond rfl (fun hc => ?_) (fun hc => ?_)
    · have hc : sz a = 2 := by have := of_decide_eq_true hc; omega
      rw [if_pos hc] at hst
      repeat' (first | refine tr_seq ?_ | refine tr_block ?_ | refine tr_skip ?_)
      first | refine reg (T := tab) tOk hnt rfl ?_ ?_ | refine regD (T := tab) tOk mixedR hnt rfl (by decide +kernel) ?_ ?_
      · rw [hl]
        (dsimp only [AllP]; (repeat' first | exact trivial | assumption | exact Nat.le_of_ble_eq_true rfl | apply And.intro | exact eCells_len1 _ _ ‹_› | exact eCells_isByte _ _ ‹_› | (intro hh_; have hg_ := hh_; (try simp only [condT_ff, condF_tt, notE_t, notE_f, Bool.and_eq_true, ne_eq, decide_eq_true_eq, decide_eq_false_iff_not] at hg_)) | intro _ | exact rfl | omega))
        all_goals first | exact rdC _ _ (by omega) | exact rdA _ _ (by omega) | exact rdL _ _ (by omega)
      repeat' (first | refine tr_seq ?_ | refine tr_block ?_ | refine tr_skip ?_)
      refine tr_cond rfl (fun hc => ?_) (fun hc => ?_)
      · have hb : bad2 x = true := by unfold bad2; rw [ha, ← eCells_length]; simp only [← cI]; exact hc
        rw [if_pos hb] at hst
        rw [← hx, hv, hst]
        repeat' (first | refine tr_seq ?_ | refine reg (T := tab) tOk hnt rfl ?_ ?_ | refine regD (T := tab) tOk mixedR hnt rfl (by decide +kernel) ?_ ?_ | refine tr_block ?_ | refine tr_skip ?_)
        · (dsimp only [AllP]; (repeat' first | exact trivial | assumption | exact Nat.le_of_ble_eq_true rfl | apply And.intro | decide | intro _ | exact rfl))
        exact tr_ret ⟨.inr rfl, _, _, rfl, trivial, rfl⟩
      have hb : bad2 x = false := by unfold bad2; rw [ha, ← eCells_length]; simp only [← cI]; exact hc
      have hlen : 2 ≤ x.length := by
        unfold bad2 at hb
        simp only [condT_ff, decide_eq_false_iff_not] at hb
        omega
      rw [if_neg (by rw [hb]; exact Bool.false_ne_true)] at hst
      repeat' (first | refine tr_seq ?_ | refine tr_block ?_ | refine tr_skip ?_)
      first | refine reg (T := tab) tOk hnt rfl ?_ ?_ | refine regD (T := tab) tOk mixedR hnt rfl (by decide +kernel) ?_ ?_
      · rw [hl]
        (dsimp only [AllP]; (repeat' first | exact trivial | assumption | exact Nat.le_of_ble_eq_true rfl | apply And.intro | exact eCells_len1 _ _ ‹_› | exact eCells_isByte _ _ ‹_› | (intro hh_; have hg_ := hh_; (try simp only [condT_ff, condF_tt, notE_t, notE_f, Bool.and_eq_true, ne_eq, decide_eq_true_eq, decide_eq_false_iff_not] at hg_)) | intro _ | exact rfl | omega))
        all_goals first | exact rdC _ _ (by omega) | exact rdA _ _ (by omega) | exact rdL _ _ (by omega)
      rw [sl_k x 2 2 rfl]
      rw [hst] at hv
      have hv : vld x = vld (x.drop 2) := hv
      repeat' (first | refine tr_seq ?_ | refine tr_block ?_ | refine tr_skip ?_)
      refine ⟨(x.drop 2), ?_, ?_, le_of (ad := []) ⟨rfl, rfl, rfl, trivial⟩ trivial⟩
      · exact hv.symm.trans hx
      · rw [List.length_drop]; omega
    have hc2 : ¬ sz a = 2 := fun e => absurd (of_decide_eq_false hc) (fun h => h (by omega))
    repeat' (first | refine tr_seq ?_ | refine tr_block ?_ | refine tr_skip ?_)
    first | refine reg (T := tab) tOk hnt rfl ?_ ?_ | refine regD (T := tab) tOk mixedR hnt rfl (by decide +kernel) ?_ ?_
    · (dsimp only [AllP]; (repeat' first | exact trivial | assumption | exact Nat.le_of_ble_eq_true rfl | apply And.intro | decide | intro _ | exact rfl))
    repeat' (first | refine tr_seq ?_ | refine tr_block ?_ | refine tr_skip ?_)
    refine tr_cond rfl (fun hc => ?_) (fun hc => ?_)
    · have hc : sz a = 3 := by have := of_decide_eq_true hc; omega
      rw [if_neg hc2, if_pos hc] at hst
      repeat' (first | refine tr_seq ?_ | refine tr_block ?_ | refine tr_skip ?_)
      first | refine reg (T := tab) tOk hnt rfl ?_ ?_ | refine regD (T := tab) tOk mixedR hnt rfl (by decide +kernel) ?_ ?_
      · rw [hl]
        (dsimp only [AllP]; (repeat' first | exact trivial | assumption | exact Nat.le_of_ble_eq_true rfl | apply And.intro | exact eCells_len1 _ _ ‹_› | exact eCells_isByte _ _ ‹_› | (intro hh_; have hg_ := hh_; (try simp only [condT_ff, condF_tt, notE_t, notE_f, Bool.and_eq_true, ne_eq, decide_eq_true_eq, decide_eq_false_iff_not] at hg_)) | intro _ | exact rfl | omega))
        all_goals first | exact rdC _ _ (by omega) | exact rdA _ _ (by omega) | exact rdL _ _ (by omega)
      repeat' (first | refine tr_seq ?_ | refine tr_block ?_ | refine tr_skip ?_)
      refine tr_cond rfl (fun hc => ?_) (fun hc => ?_)
      · have hb : bad3 x = true := by unfold bad3; rw [ha, ← eCells_length]; simp only [← cI]; exact hc
        rw [if_pos hb] at hst
        rw [← hx, hv, hst]
        repeat' (first | refine tr_seq ?_ | refine reg (T := tab) tOk hnt rfl ?_ ?_ | refine regD (T := tab) tOk mixedR hnt rfl (by decide +kernel) ?_ ?_ | refine tr_block ?_ | refine tr_skip ?_)
        · (dsimp only [AllP]; (repeat' first | exact trivial | assumption | exact Nat.le_of_ble_eq_true rfl | apply And.intro | decide | intro _ | exact rfl))
        exact tr_ret ⟨.inr rfl, _, _, rfl, trivial, rfl⟩
      have hb : bad3 x = false := by unfold bad3; rw [ha, ← eCells_length]; simp only [← cI]; exact hc
      have hlen : 3 ≤ x.length := by
        unfold bad3 at hb
        simp only [condT_ff, decide_eq_false_iff_not] at hb
        omega
      rw [if_neg (by rw [hb]; exact Bool.false_ne_true)] at hst
      repeat' (first | refine tr_seq ?_ | refine tr_block ?_ | refine tr_skip ?_)
      first | refine reg (T := tab) tOk hnt rfl ?_ ?_ | refine regD (T := tab) tOk mixedR hnt rfl (by decide +kernel) ?_ ?_
      · rw [hl]
        (dsimp only [AllP]; (repeat' first | exact trivial | assumption | exact Nat.le_of_ble_eq_true rfl | apply And.intro | exact eCells_len1 _ _ ‹_› | exact eCells_isByte _ _ ‹_› | (intro hh_; have hg_ := hh_; (try simp only [condT_ff, condF_tt, notE_t, notE_f, Bool.and_eq_true, ne_eq, decide_eq_true_eq, decide_eq_false_iff_not] at hg_)) | intro _ | exact rfl | omega))
        all_goals first | exact rdC _ _ (by omega) | exact rdA _ _ (by omega) | exact rdL _ _ (by omega)
      rw [sl_k x 3 3 rfl]
      rw [hst] at hv
      have hv : vld x = vld (x.drop 3) := hv
      repeat' (first | refine tr_seq ?_ | refine tr_block ?_ | refine tr_skip ?_)
      refine ⟨(x.drop 3), ?_, ?_, le_of (ad := []) ⟨rfl, rfl, rfl, trivial⟩ trivial⟩
      · exact hv.symm.trans hx
      · rw [List.length_drop]; omega
    have hc3 : ¬ sz a = 3 := fun e => absurd (of_decide_eq_false hc) (fun h => h (by omega))
    repeat' (first | refine tr_seq ?_ | refine tr_block ?_ | refine tr_skip ?_)
    first | refine reg (T := tab) tOk hnt rfl ?_ ?_ | refine regD (T := tab) tOk mixedR hnt rfl (by decide +kernel) ?_ ?_
    · (dsimp only [AllP]; (repeat' first | exact trivial | assumption | exact Nat.le_of_ble_eq_true rfl | apply And.intro | decide | intro _ | exact rfl))
    repeat' (first | refine tr_seq ?_ | refine tr_block ?_ | refine tr_skip ?_)
    refine tr_cond rfl (fun hc => ?_) (fun hc => ?_)
    · have hc : sz a = 4 := by have := of_decide_eq_true hc; omega
      rw [if_neg hc2, if_neg hc3, if_pos hc] at hst
      repeat' (first | refine tr_seq ?_ | refine tr_block ?_ | refine tr_skip ?_)
      first | refine reg (T := tab) tOk hnt rfl ?_ ?_ | refine regD (T := tab) tOk mixedR hnt rfl (by decide +kernel) ?_ ?_
      · rw [hl]
        (dsimp only [AllP]; (repeat' first | exact trivial | assumption | exact Nat.le_of_ble_eq_true rfl | apply And.intro | exact eCells_len1 _ _ ‹_› | exact eCells_isByte _ _ ‹_› | (intro hh_; have hg_ := hh_; (try simp only [condT_ff, condF_tt, notE_t, notE_f, Bool.and_eq_true, ne_eq, decide_eq_true_eq, decide_eq_false_iff_not] at hg_)) | intro _ | exact rfl | omega))
        all_goals first | exact rdC _ _ (by omega) | exact rdA _ _ (by omega) | exact rdL _ _ (by omega)
      repeat' (first | refine tr_seq ?_ | refine tr_block ?_ | refine tr_skip ?_)
      refine tr_cond rfl (fun hc => ?_) (fun hc => ?_)
      · have hb : bad4 x = true := by unfold bad4; rw [ha, ← eCells_length]; simp only [← cI]; exact hc
        rw [if_pos hb] at hst
        rw [← hx, hv, hst]
        repeat' (first | refine tr_seq ?_ | refine reg (T := tab) tOk hnt rfl ?_ ?_ | refine regD (T := tab) tOk mixedR hnt rfl (by decide +kernel) ?_ ?_ | refine tr_block ?_ | refine tr_skip ?_)
        · (dsimp only [AllP]; (repeat' first | exact trivial | assumption | exact Nat.le_of_ble_eq_true rfl | apply And.intro | decide | intro _ | exact rfl))
        exact tr_ret ⟨.inr rfl, _, _, rfl, trivial, rfl⟩
      have hb : bad4 x = false := by unfold bad4; rw [ha, ← eCells_length]; simp only [← cI]; exact hc
      have hlen : 4 ≤ x.length := by
        unfold bad4 at hb
        simp only [condT_ff, decide_eq_false_iff_not] at hb
        omega
      rw [if_neg (by rw [hb]; exact Bool.false_ne_true)] at hst
      repeat' (first | refine tr_seq ?_ | refine tr_block ?_ | refine tr_skip ?_)
      first | refine reg (T := tab) tOk hnt rfl ?_ ?_ | refine regD (T := tab) tOk mixedR hnt rfl (by decide +kernel) ?_ ?_
      · rw [hl]
        (dsimp only [AllP]; (repeat' first | exact trivial | assumption | exact Nat.le_of_ble_eq_true rfl | apply And.intro | exact eCells_len1 _ _ ‹_› | exact eCells_isByte _ _ ‹_› | (intro hh_; have hg_ := hh_; (try simp only [condT_ff, condF_tt, notE_t, notE_f, Bool.and_eq_true, ne_eq, decide_eq_true_eq, decide_eq_false_iff_not] at hg_)) | intro _ | exact rfl | omega))
        all_goals first | exact rdC _ _ (by omega) | exact rdA _ _ (by omega) | exact rdL _ _ (by omega)
      rw [sl_k x 4 4 rfl]
      rw [hst] at hv
      have hv : vld x = vld (x.drop 4) := hv
      repeat' (first | refine tr_seq ?_ | refine tr_block ?_ | refine tr_skip ?_)
      refine ⟨(x.drop 4), ?_, ?_, le_of (ad := []) ⟨rfl, rfl, rfl, trivial⟩ trivial⟩
      · exact hv.symm.trans hx
      · rw [List.length_drop]; omega
    have hc4 : ¬ sz a = 4 := fun e => absurd (of_decide_eq_false hc) (fun h => h (by omega))
    rw [if_neg hc2, if_neg hc3, if_neg hc4] at hst
    rw [← hx, hv, hst]
    repeat' (first | refine tr_seq ?_ | refine reg (T := tab) tOk hnt rfl ?_ ?_ | refine regD (T := tab) tOk mixedR hnt rfl (by decide +kernel) ?_ ?_ | refine tr_block ?_ | refine tr_skip ?_)
    · (dsimp only [AllP]; (repeat' first | exact trivial | assumption | exact Nat.le_of_ble_eq_true rfl | apply And.intro | decide | intro _ | exact rfl))
    exact tr_ret ⟨.inr rfl, _, _, rfl, trivial, rfl⟩
  refine tr_exit ?_
  have hc : ¬ (0 : Int) < ((eCells x).length : Int) := of_decide_eq_false hc
  obtain rfl : x = [] := List.eq_nil_of_length_eq_zero (by omega)
  rw [← hx, vld_nil]
  repeat' (first | refine tr_seq ?_ | refine reg (T := tab) tOk hnt rfl ?_ ?_ | refine regD (T := tab) tOk mixedR hnt rfl (by decide +kernel) ?_ ?_ | refine tr_block ?_ | refine tr_skip ?_)
  · (dsimp only [AllP]; (repeat' first | exact trivial | assumption | exact Nat.le_of_ble_eq_true rfl | apply And.intro | decide | intro _ | exact rfl))
  exact tr_ret ⟨.inr rfl, _, _, rfl, trivial, rfl⟩
end Go.Proofs.YtcjeeoimjkhijaaDoor
namespace Go.Proofs.YtcjeeoimjkhijaaDoor
open Go Go.RowKit Go.Proofs.YtcjeeoimjkhijaaDoor.Ab
set_option linter.unusedSimpArgs false
set_option linter.unusedVariables false

def eBo (b : Bool) : E := .v (.bool b)
/-- the reader's three variables: where it stands, the bytes, what turns them over -/
def msN (a : Nat) (b : List UInt8) (f : UInt8) : List (Nat × Blk) := [(900000, ⟨0, .box (.es [eI (a : Int)]), 0⟩), (900001, ⟨0, .box (.es [eBytes b]), 0⟩), (900002, ⟨0, .box (.es [eB f]), 0⟩)]
def rN (c : UInt8) (ok : Bool) : D := .tup [(false, .es [eB c]), (false, .es [eBo ok])]
theorem xorB : ∀ c f : UInt8, IntKind.u8.wrap ((BitVec.ofInt IntKind.u8.bits (c.toNat : Int) ^^^ BitVec.ofInt IntKind.u8.bits (f.toNat : Int)).toNat : Int) = ((c ^^^ f).toNat : Int) := by
  intro c f
  have e : ∀ x : UInt8, BitVec.ofInt IntKind.u8.bits (x.toNat : Int) = x.toBitVec := fun x => by
    rw [show BitVec.ofInt IntKind.u8.bits (x.toNat : Int) = BitVec.ofNat 8 x.toNat from BitVec.ofInt_natCast ..]
    exact BitVec.ofNat_toNat ..  |>.trans (BitVec.setWidth_eq _)
  rw [e, e]
  have h := (c ^^^ f).toNat_lt
  have h2 : IntKind.u8.wrap (((c ^^^ f).toNat : Nat) : Int) = ((c ^^^ f).toNat : Int) := by
    generalize c ^^^ f = z at *
    unfold IntKind.wrap
    simp [IntKind.bits, IntKind.signed]
    omega
  exact h2
set_option maxRecDepth 10000 in
set_option maxHeartbeats 2000000 in
theorem nextEnd_fn (a : Nat) (b : List UInt8) (f : UInt8) (h : b.length ≤ a) : FnH Tryd.prog 48 [] (msN a b f) [.one (.ptr 900000 0 0), .one (.ptr 900001 0 0), .one (.ptr 900002 0 0)] (rN 0 false) (msN a b f) := by
  refine fn_introH (T := tab) tOk Tryd.func48 rfl (by kernel_rfl) (by simp [Tryd.ntmps48]) rfl rfl ?_
  intro X hX
  have hnt : X.nt = 18 := hX
  clear hX
  have hl : (eCells b).length = b.length := eCells_length b
  repeat' (first | refine tr_seq ?_ | refine reg (T := tab) tOk hnt rfl ?_ ?_ | refine regD (T := tab) tOk mixedR hnt rfl (by decide +kernel) ?_ ?_ | refine tr_block ?_ | refine tr_skip ?_)
  · (dsimp only [AllP]; (repeat' first | exact trivial | assumption | exact Nat.le_of_ble_eq_true rfl | apply And.intro | decide | intro _ | exact rfl))
  · (dsimp only [AllP]; (repeat' first | exact trivial | assumption | exact Nat.le_of_ble_eq_true rfl | apply And.intro | decide | intro _ | exact rfl))
  repeat' (first | refine tr_seq ?_ | refine tr_block ?_ | refine tr_skip ?_)
  refine tr_cond rfl (fun hc => ?_) (fun hc => ?_)
  · repeat' (first | refine tr_seq ?_ | refine reg (T := tab) tOk hnt rfl ?_ ?_ | refine regD (T := tab) tOk mixedR hnt rfl (by decide +kernel) ?_ ?_ | refine tr_block ?_ | refine tr_skip ?_)
    · (dsimp only [AllP]; (repeat' first | exact trivial | assumption | exact Nat.le_of_ble_eq_true rfl | apply And.intro | decide | intro _ | exact rfl))
    refine tr_ret ⟨.inr rfl, _, _, _, rfl, by (repeat' first | exact trivial | exact Nat.le_of_ble_eq_true rfl | apply And.intro), rfl, fun X => le_of (ad := []) ⟨⟨⟨rfl, ?_⟩, ⟨rfl, ?_⟩, trivial⟩, ⟨rfl, rfl, rfl, rfl, rfl⟩, ⟨rfl, rfl, rfl, rfl, rfl⟩, ⟨rfl, rfl, rfl, rfl, rfl⟩, trivial⟩ (memOk_box rfl rfl ?_ (memOk_box rfl rfl rfl (memOk_box rfl rfl rfl trivial)))⟩
    all_goals rfl
  have hc := of_decide_eq_false hc
  have hc : ¬ ((eCells b).length : Int) ≤ (a : Int) := hc
  omega
set_option maxRecDepth 10000 in
set_option maxHeartbeats 2000000 in
theorem nextGo_fn (a : Nat) (b : List UInt8) (f : UInt8) (h : a < b.length) (hb : b.length ≤ maxLen) : FnH Tryd.prog 48 [] (msN a b f) [.one (.ptr 900000 0 0), .one (.ptr 900001 0 0), .one (.ptr 900002 0 0)] (rN (b.getD a 0 ^^^ f) true) (msN (a + 1) b f) := by
  refine fn_introH (T := tab) tOk Tryd.func48 rfl (by kernel_rfl) (by simp [Tryd.ntmps48]) rfl rfl ?_
  intro X hX
  have hnt : X.nt = 18 := hX
  clear hX
  have hl : (eCells b).length = b.length := eCells_length b
  unfold maxLen at hb
  have h64 : IntKind.i64.wrap ((a : Int) + 1) = ((a + 1 : Nat) : Int) := wrap64_id (by omega) (by omega)
  have h65 : IntKind.i64.wrap (((a + 1 : Nat) : Int) - 1) = (a : Int) := (wrap64_id (by omega) (by omega)).trans (by omega)
  have hrd := rdB b a h
  have hrl := rdL b a h
  have hra := rdA b a h
  have hrc := rdC b a h
  repeat' (first | refine tr_seq ?_ | refine reg (T := tab) tOk hnt rfl ?_ ?_ | refine regD (T := tab) tOk mixedR hnt rfl (by decide +kernel) ?_ ?_ | refine tr_block ?_ | refine tr_skip ?_)
  · (dsimp only [AllP]; (repeat' first | exact trivial | assumption | exact Nat.le_of_ble_eq_true rfl | apply And.intro | decide | intro _ | exact rfl))
  · (dsimp only [AllP]; (repeat' first | exact trivial | assumption | exact Nat.le_of_ble_eq_true rfl | apply And.intro | decide | intro _ | exact rfl))
  repeat' (first | refine tr_seq ?_ | refine tr_block ?_ | refine tr_skip ?_)
  refine tr_cond rfl (fun hc => ?_) (fun hc => ?_)
  · have hc := of_decide_eq_true hc
    have hc : ((eCells b).length : Int) ≤ (a : Int) := hc
    omega
  repeat' (first | refine tr_seq ?_ | refine tr_block ?_ | refine tr_skip ?_)
  first | refine reg (T := tab) tOk hnt rfl ?_ ?_ | refine regD (T := tab) tOk mixedR hnt rfl (by decide +kernel) ?_ ?_
  · (dsimp only [AllP]; (repeat' first | exact trivial | assumption | exact Nat.le_of_ble_eq_true rfl | apply And.intro | exact eCells_len1 _ _ ‹_› | exact eCells_isByte _ _ ‹_› | (intro hh_; have hg_ := hh_; (try simp only [condT_ff, condF_tt, notE_t, notE_f, Bool.and_eq_true, ne_eq, decide_eq_true_eq, decide_eq_false_iff_not] at hg_)) | intro _ | exact rfl | omega))
  refine tr_le (s' := St.of [(0, .one (.ptr 900000 0 0)), (1, .one (.ptr 900001 0 0)), (2, .one (.ptr 900002 0 0)), (900000, .one (.ptr 900000 0 0)), (900001, .one (.ptr 900001 0 0)), (900002, .one (.ptr 900002 0 0))] [(900000, ⟨0, .box (.es [eI ((a + 1 : Nat) : Int)]), 0⟩), (900001, ⟨0, .box (.es [eBytes b]), 0⟩), (900002, ⟨0, .box (.es [eB f]), 0⟩)]) (le_of (ad := []) (by refine ⟨?_, ?_, ?_, ?_, ?_, ?_, trivial⟩ <;> first | exact trivial | rfl | exact ⟨rfl, rfl⟩ | exact ⟨rfl, rfl, rfl⟩ | exact ⟨rfl, rfl, rfl, rfl⟩ | exact ⟨rfl, rfl, rfl, rfl, rfl⟩ | exact congrArg (fun z : Int => E.v (.int .i64 z)) (wrap64_id (by omega) (by omega)) | (refine ⟨rfl, ?_⟩; repeat' first | exact trivial | rfl | apply And.intro)) (memOk_box rfl rfl (congrArg (fun z : Int => [E.v (.int .i64 z)]) h64) (memOk_box rfl rfl rfl (memOk_box rfl rfl rfl trivial)))) ?_
  have e1 : ([eI ((a + 1 : Nat) : Int)].getD 0 E.dflt).int = ((a + 1 : Nat) : Int) := rfl
  have e2 : ([eBytes b].getD 0 E.dflt).xs = eCells b := rfl
  have e3 : ([eB f].getD 0 E.dflt).int = (f.toNat : Int) := rfl
  repeat' (first | refine tr_seq ?_ | refine tr_block ?_ | refine tr_skip ?_)
  first | refine reg (T := tab) tOk hnt rfl ?_ ?_ | refine regD (T := tab) tOk mixedR hnt rfl (by decide +kernel) ?_ ?_
  · rw [e1, h65, e2, e3, Int.toNat_natCast, hrd]
    (dsimp only [AllP]; (repeat' first | exact trivial | assumption | exact Nat.le_of_ble_eq_true rfl | apply And.intro | exact eCells_len1 _ _ ‹_› | exact eCells_isByte _ _ ‹_› | (intro hh_; have hg_ := hh_; (try simp only [condT_ff, condF_tt, notE_t, notE_f, Bool.and_eq_true, ne_eq, decide_eq_true_eq, decide_eq_false_iff_not] at hg_)) | intro _ | exact rfl | omega))
    all_goals trace_state
  rw [e1, h65, e2, e3, Int.toNat_natCast, hrd]
  refine tr_ret ⟨.inr rfl, _, _, _, rfl, by (repeat' first | exact trivial | exact Nat.le_of_ble_eq_true rfl | apply And.intro), rfl, fun X => le_of (ad := []) ⟨⟨⟨rfl, ?_⟩, ⟨rfl, ?_⟩, trivial⟩, ⟨rfl, rfl, rfl, rfl, rfl⟩, ⟨rfl, rfl, rfl, rfl, rfl⟩, ⟨rfl, rfl, rfl, rfl, rfl⟩, trivial⟩ (memOk_box rfl rfl ?_ (memOk_box rfl rfl rfl (memOk_box rfl rfl rfl trivial)))⟩
  · exact congrArg (fun z : Int => [E.v (.int .u8 z)]) (xorB _ _)
  all_goals rfl
/-! ### a text -/
def sv (b : List UInt8) (a : Nat) (f : UInt8) : List UInt8 := (b.drop a).map (· ^^^ f)
theorem sv_nil {b : List UInt8} {a : Nat} {f : UInt8} (h : b.length ≤ a) : sv b a f = [] := by
  unfold sv
  rw [List.drop_eq_nil_of_le h]
  rfl
theorem sv_cons {b : List UInt8} {a : Nat} {f : UInt8} (h : a < b.length) : sv b a f = (b.getD a 0 ^^^ f) :: sv b (a + 1) f := by
  unfold sv
  rw [drop_getD (d := 0) h]
  rfl
/-- what is read of a text: its bytes, what is wrong, how far one reads -/
def txF (acc : List UInt8) : List UInt8 → List UInt8 × Int × Nat
  | [] => ([], 4, 0)
  | c :: r =>
    if c = 0 then
      match r with
      | [] => ([], 4, 1)
      | d :: r' => if d = 1 then (if vld acc = true then (acc, 0, 2) else ([], 3, 2)) else if d ≠ 255 then ([], 3, 2) else
        if acc.length = 40 then ([], 1, 2) else let q := txF (acc ++ [0]) r'; (q.1, q.2.1, q.2.2 + 2)
    else if acc.length = 40 then ([], 1, 1) else let q := txF (acc ++ [c]) r; (q.1, q.2.1, q.2.2 + 1)
theorem txF_z0 (acc : List UInt8) : txF acc [0] = ([], 4, 1) := by
  rw [txF.eq_def]
  simp
theorem txF_zd (acc : List UInt8) (d : UInt8) (r : List UInt8) : txF acc (0 :: d :: r) = if d = 1 then (if vld acc = true then (acc, 0, 2) else ([], 3, 2)) else if d ≠ 255 then ([], 3, 2) else
    if acc.length = 40 then ([], 1, 2) else ((txF (acc ++ [0]) r).1, (txF (acc ++ [0]) r).2.1, (txF (acc ++ [0]) r).2.2 + 2) := by
  rw [txF.eq_def]
  simp
theorem txF_ne (acc : List UInt8) {c : UInt8} (r : List UInt8) (h : c ≠ 0) : txF acc (c :: r) = if acc.length = 40 then ([], 1, 1) else ((txF (acc ++ [c]) r).1, (txF (acc ++ [c]) r).2.1, (txF (acc ++ [c]) r).2.2 + 1) := by
  rw [txF.eq_def]
  simp [h]
def rT (q : List UInt8 × Int × Nat) : D := .tup [(false, .es [eT q.1]), (false, .es [eI q.2.1])]
abbrev clN : D := .one (.clo 48 [(900000, 0, 0), (900001, 0, 0), (900002, 0, 0)])
set_option maxRecDepth 10000 in
set_option maxHeartbeats 2000000 in
theorem text_fn (a : Nat) (b : List UInt8) (f : UInt8) (h : a ≤ b.length) (hb : b.length ≤ maxLen) (hV : ∀ l : List UInt8, l.length ≤ 40 → FnG Tryd.prog 96 gK [.one (.e (eBytes l))] (.v (.bool (vld l)))) : FnH Tryd.prog 82 ((gK)) (msN a b f) [clN] (rT (txF [] (sv b a f))) (msN (a + (txF [] (sv b a f)).2.2) b f) := by
  refine fn_introH (T := tab) tOk Tryd.func82 rfl (by kernel_rfl) (by simp [Tryd.ntmps82]) rfl rfl ?_
  intro X hX
  have hnt : X.nt = 41 := hX
  clear hX
  generalize hT : txF [] (sv b a f) = T at *
  obtain ⟨t1, t2, t3⟩ := T
  repeat' (first | refine tr_seq ?_ | refine reg (T := tab) tOk hnt rfl ?_ ?_ | refine regD (T := tab) tOk mixedR hnt rfl (by decide +kernel) ?_ ?_ | refine tr_block ?_ | refine tr_skip ?_)
  · (dsimp only [AllP]; (repeat' first | exact trivial | assumption | exact Nat.le_of_ble_eq_true rfl | apply And.intro | decide | intro _ | exact rfl))
  · (dsimp only [AllP]; (repeat' first | exact trivial | assumption | exact Nat.le_of_ble_eq_true rfl | apply And.intro | decide | intro _ | exact rfl))
  repeat' (first | refine tr_seq ?_ | refine tr_block ?_ | refine tr_skip ?_)
  refine tr_loop (σ := Nat × List UInt8) (fun y => St.of [(0, clN), (4, .one (.own 35 0)), (900000, .one (.ptr 900000 0 0)), (900001, .one (.ptr 900001 0 0)), (900002, .one (.ptr 900002 0 0)), ((1000000 + 0), .one (.eptr fsE)), ((1000000 + 1), .one (.eptr acE))] [(900000, ⟨0, .box (.es [eI (y.1 : Int)]), 0⟩), (900001, ⟨0, .box (.es [eBytes b]), 0⟩), (900002, ⟨0, .box (.es [eB f]), 0⟩), (35, ⟨0, .row 1 (eCells y.2), 0⟩)]) (fun y => ((txF y.2 (sv b y.1 f)).1 = t1 ∧ (txF y.2 (sv b y.1 f)).2.1 = t2 ∧ y.1 + (txF y.2 (sv b y.1 f)).2.2 = a + t3) ∧ y.1 ≤ b.length ∧ y.2.length ≤ 40) (fun y => b.length - y.1) ((a, [])) (le_of (ad := [35]) (by refine ⟨?_, ?_, ?_, ?_, ?_, ?_, ?_, trivial⟩ <;> first | exact trivial | rfl | exact ⟨rfl, rfl⟩ | exact ⟨rfl, rfl, rfl⟩ | exact ⟨rfl, rfl, rfl, rfl⟩ | exact ⟨rfl, rfl, rfl, rfl, rfl⟩ | exact congrArg (fun z : Int => E.v (.int .i64 z)) (wrap64_id (by omega) (by omega)) | (refine ⟨rfl, ?_⟩; repeat' first | exact trivial | rfl | apply And.intro)) (memOk_box rfl rfl rfl (memOk_box rfl rfl rfl (memOk_box rfl rfl rfl (memOk_new rfl (by decide) trivial))))) ⟨⟨by rw [hT], by rw [hT], by rw [hT]⟩, h, Nat.zero_le _⟩ ?_
  rintro ⟨i, acc⟩ ⟨⟨q1, q2, q3⟩, il, hal⟩
  dsimp only at q1 q2 q3 il hal ⊢
  by_cases hi : i < b.length
  · have hn := nextGo_fn i b f hi hb
    rw [sv_cons hi] at q1 q2 q3
    generalize b.getD i 0 ^^^ f = c at *
    repeat' (first | refine tr_seq ?_ | refine tr_block ?_ | refine tr_skip ?_)
    refine tr_region (lex (T := tab) tOk hnt rfl ?_ (callH (us := []) [(900000, 900000), (900001, 900001), (900002, 900002)] [] [] rfl rfl rfl rfl (hn) (by repeat' first | exact .nil | refine .lent rfl rfl rfl ?_ | refine .data rfl ?_) (fun _ => rfl) rfl rfl hnt rfl rfl (by repeat' first | exact trivial | rfl | apply And.intro) (by repeat' first | exact trivial | rfl | apply And.intro) (lex (T := tab) tOk hnt rfl ?_ (Lex.nil _)))) ?_
    · (dsimp only [AllP]; (repeat' first | exact trivial | assumption | exact Nat.le_of_ble_eq_true rfl | apply And.intro | exact eCells_len1 _ _ ‹_› | exact eCells_isByte _ _ ‹_› | (intro hh_; have hg_ := hh_; (try simp only [condT_ff, condF_tt, notE_t, notE_f, Bool.and_eq_true, ne_eq, decide_eq_true_eq, decide_eq_false_iff_not] at hg_)) | intro _ | exact rfl | omega))
    · (dsimp only [AllP]; (repeat' first | exact trivial | assumption | exact Nat.le_of_ble_eq_true rfl | apply And.intro | exact eCells_len1 _ _ ‹_› | exact eCells_isByte _ _ ‹_› | (intro hh_; have hg_ := hh_; (try simp only [condT_ff, condF_tt, notE_t, notE_f, Bool.and_eq_true, ne_eq, decide_eq_true_eq, decide_eq_false_iff_not] at hg_)) | intro _ | exact rfl | omega))
    refine tr_le (s' := St.of [(0, clN), (4, .one (.own 35 0)), (5, .one (.e (eB c))), (6, .v (.bool true)), (900000, .one (.ptr 900000 0 0)), (900001, .one (.ptr 900001 0 0)), (900002, .one (.ptr 900002 0 0)), ((1000000 + 0), .one (.eptr fsE)), ((1000000 + 1), .one (.eptr acE))] [(900000, ⟨0, .box (.es [eI ((i + 1 : Nat) : Int)]), 0⟩), (900001, ⟨0, .box (.es [eBytes b]), 0⟩), (900002, ⟨0, .box (.es [eB f]), 0⟩), (35, ⟨0, .row 1 (eCells acc), 0⟩)]) (le_of (ad := []) (by refine ⟨?_, ?_, ?_, ?_, ?_, ?_, ?_, ?_, ?_, trivial⟩ <;> first | exact trivial | rfl | exact ⟨rfl, rfl⟩ | exact ⟨rfl, rfl, rfl⟩ | exact ⟨rfl, rfl, rfl, rfl⟩ | exact ⟨rfl, rfl, rfl, rfl, rfl⟩ | exact congrArg (fun z : Int => E.v (.int .i64 z)) (wrap64_id (by omega) (by omega)) | (refine ⟨rfl, ?_⟩; repeat' first | exact trivial | rfl | apply And.intro)) (memOk_box rfl rfl rfl (memOk_box rfl rfl rfl (memOk_box rfl rfl rfl (memOk_row rfl rfl rfl trivial))))) ?_
    repeat' (first | refine tr_seq ?_ | refine reg (T := tab) tOk hnt rfl ?_ ?_ | refine regD (T := tab) tOk mixedR hnt rfl (by decide +kernel) ?_ ?_ | refine tr_block ?_ | refine tr_skip ?_)
    · (dsimp only [AllP]; (repeat' first | exact trivial | assumption | exact Nat.le_of_ble_eq_true rfl | apply And.intro | decide | intro _ | exact rfl))
    repeat' (first | refine tr_seq ?_ | refine tr_block ?_ | refine tr_skip ?_)
    refine tr_cond rfl (fun hc => ?_) (fun hc => ?_)
    · first | exact absurd (show false = true from hc) Bool.false_ne_true | exact absurd (show true = false from hc).symm Bool.false_ne_true
    repeat' (first | refine tr_seq ?_ | refine reg (T := tab) tOk hnt rfl ?_ ?_ | refine regD (T := tab) tOk mixedR hnt rfl (by decide +kernel) ?_ ?_ | refine tr_block ?_ | refine tr_skip ?_)
    · (dsimp only [AllP]; (repeat' first | exact trivial | assumption | exact Nat.le_of_ble_eq_true rfl | apply And.intro | decide | intro _ | exact rfl))
    repeat' (first | refine tr_seq ?_ | refine tr_block ?_ | refine tr_skip ?_)
    refine tr_cond rfl (fun hc => ?_) (fun hc => ?_)
    · have hc := of_decide_eq_true hc
      have hc0 : c = 0 := UInt8.toNat_inj.1 (by have hc : ((c.toNat : Nat) : Int) = 0 := hc; show c.toNat = 0; omega)
      subst hc0
      by_cases hi2 : i + 1 < b.length
      · have hn := nextGo_fn (i + 1) b f hi2 hb
        rw [sv_cons hi2, txF_zd] at q1 q2 q3
        generalize b.getD (i + 1) 0 ^^^ f = d at *
        repeat' (first | refine tr_seq ?_ | refine tr_block ?_ | refine tr_skip ?_)
        refine tr_region (lex (T := tab) tOk hnt rfl ?_ (callH (us := []) [(900000, 900000), (900001, 900001), (900002, 900002)] [] [] rfl rfl rfl rfl (hn) (by repeat' first | exact .nil | refine .lent rfl rfl rfl ?_ | refine .data rfl ?_) (fun _ => rfl) rfl rfl hnt rfl rfl (by repeat' first | exact trivial | rfl | apply And.intro) (by repeat' first | exact trivial | rfl | apply And.intro) (lex (T := tab) tOk hnt rfl ?_ (Lex.nil _)))) ?_
        · (dsimp only [AllP]; (repeat' first | exact trivial | assumption | exact Nat.le_of_ble_eq_true rfl | apply And.intro | exact eCells_len1 _ _ ‹_› | exact eCells_isByte _ _ ‹_› | (intro hh_; have hg_ := hh_; (try simp only [condT_ff, condF_tt, notE_t, notE_f, Bool.and_eq_true, ne_eq, decide_eq_true_eq, decide_eq_false_iff_not] at hg_)) | intro _ | exact rfl | omega))
        · (dsimp only [AllP]; (repeat' first | exact trivial | assumption | exact Nat.le_of_ble_eq_true rfl | apply And.intro | exact eCells_len1 _ _ ‹_› | exact eCells_isByte _ _ ‹_› | (intro hh_; have hg_ := hh_; (try simp only [condT_ff, condF_tt, notE_t, notE_f, Bool.and_eq_true, ne_eq, decide_eq_true_eq, decide_eq_false_iff_not] at hg_)) | intro _ | exact rfl | omega))
        refine tr_le (s' := St.of [(0, clN), (4, .one (.own 35 0)), (5, .one (.e (eB 0))), (7, .one (.e (eB d))), (8, .v (.bool true)), (900000, .one (.ptr 900000 0 0)), (900001, .one (.ptr 900001 0 0)), (900002, .one (.ptr 900002 0 0)), ((1000000 + 0), .one (.eptr fsE)), ((1000000 + 1), .one (.eptr acE))] [(900000, ⟨0, .box (.es [eI ((i + 1 + 1 : Nat) : Int)]), 0⟩), (900001, ⟨0, .box (.es [eBytes b]), 0⟩), (900002, ⟨0, .box (.es [eB f]), 0⟩), (35, ⟨0, .row 1 (eCells acc), 0⟩)]) (le_of (ad := []) (by refine ⟨?_, ?_, ?_, ?_, ?_, ?_, ?_, ?_, ?_, ?_, trivial⟩ <;> first | exact trivial | rfl | exact ⟨rfl, rfl⟩ | exact ⟨rfl, rfl, rfl⟩ | exact ⟨rfl, rfl, rfl, rfl⟩ | exact ⟨rfl, rfl, rfl, rfl, rfl⟩ | exact congrArg (fun z : Int => E.v (.int .i64 z)) (wrap64_id (by omega) (by omega)) | (refine ⟨rfl, ?_⟩; repeat' first | exact trivial | rfl | apply And.intro)) (memOk_box rfl rfl rfl (memOk_box rfl rfl rfl (memOk_box rfl rfl rfl (memOk_row rfl rfl rfl trivial))))) ?_
        repeat' (first | refine tr_seq ?_ | refine reg (T := tab) tOk hnt rfl ?_ ?_ | refine regD (T := tab) tOk mixedR hnt rfl (by decide +kernel) ?_ ?_ | refine tr_block ?_ | refine tr_skip ?_)
        · (dsimp only [AllP]; (repeat' first | exact trivial | assumption | exact Nat.le_of_ble_eq_true rfl | apply And.intro | decide | intro _ | exact rfl))
        repeat' (first | refine tr_seq ?_ | refine tr_block ?_ | refine tr_skip ?_)
        refine tr_cond rfl (fun hc => ?_) (fun hc => ?_)
        · first | exact absurd (show false = true from hc) Bool.false_ne_true | exact absurd (show true = false from hc).symm Bool.false_ne_true
        repeat' (first | refine tr_seq ?_ | refine reg (T := tab) tOk hnt rfl ?_ ?_ | refine regD (T := tab) tOk mixedR hnt rfl (by decide +kernel) ?_ ?_ | refine tr_block ?_ | refine tr_skip ?_)
        · (dsimp only [AllP]; (repeat' first | exact trivial | assumption | exact Nat.le_of_ble_eq_true rfl | apply And.intro | decide | intro _ | exact rfl))
        repeat' (first | refine tr_seq ?_ | refine tr_block ?_ | refine tr_skip ?_)
        refine tr_cond rfl (fun hc => ?_) (fun hc => ?_)
        · have hc := of_decide_eq_true hc
          have hd1 : d = 1 := UInt8.toNat_inj.1 (by have hc : ((d.toNat : Nat) : Int) = 1 := hc; show d.toNat = 1; omega)
          rw [if_pos hd1] at q1 q2 q3
          refine tr_exit ?_
          have hv := hV acc hal
          have hby := eCells_isByte acc
          repeat' (first | refine tr_seq ?_ | refine tr_block ?_ | refine tr_skip ?_)
          refine tr_region (lex (T := tab) tOk hnt rfl ?_ (callV rfl rfl rfl rfl rfl rfl rfl hnt rfl (hv) (lex (T := tab) tOk hnt rfl ?_ (Lex.nil _)))) ?_
          · (dsimp only [AllP]; (repeat' first | exact trivial | assumption | exact Nat.le_of_ble_eq_true rfl | apply And.intro | exact eCells_len1 _ _ ‹_› | exact eCells_isByte _ _ ‹_› | (intro hh_; have hg_ := hh_; (try simp only [condT_ff, condF_tt, notE_t, notE_f, Bool.and_eq_true, ne_eq, decide_eq_true_eq, decide_eq_false_iff_not] at hg_)) | intro _ | exact rfl | omega))
          · (dsimp only [AllP]; (repeat' first | exact trivial | assumption | exact Nat.le_of_ble_eq_true rfl | apply And.intro | exact eCells_len1 _ _ ‹_› | exact eCells_isByte _ _ ‹_› | (intro hh_; have hg_ := hh_; (try simp only [condT_ff, condF_tt, notE_t, notE_f, Bool.and_eq_true, ne_eq, decide_eq_true_eq, decide_eq_false_iff_not] at hg_)) | intro _ | exact rfl | omega))
          repeat' (first | refine tr_seq ?_ | refine tr_block ?_ | refine tr_skip ?_)
          refine tr_cond rfl (fun hc => ?_) (fun hc => ?_)
          · have hc : (!vld acc) = true := hc
            have hvf : ¬ vld acc = true := fun e => by rw [e] at hc; cases hc
            rw [if_neg hvf] at q1 q2 q3
            repeat' (first | refine tr_seq ?_ | refine reg (T := tab) tOk hnt rfl ?_ ?_ | refine regD (T := tab) tOk mixedR hnt rfl (by decide +kernel) ?_ ?_ | refine tr_block ?_ | refine tr_skip ?_)
            · (dsimp only [AllP]; (repeat' first | exact trivial | assumption | exact Nat.le_of_ble_eq_true rfl | apply And.intro | decide | intro _ | exact rfl))
            dsimp only at q1 q2 q3
            subst q1
            subst q2
            refine tr_ret ⟨.inr rfl, _, _, _, rfl, by (repeat' first | exact trivial | exact Nat.le_of_ble_eq_true rfl | apply And.intro), rfl, fun X => le_of (ad := []) ⟨⟨⟨rfl, rfl⟩, ⟨rfl, rfl⟩, trivial⟩, ⟨rfl, rfl, rfl, rfl, rfl⟩, ⟨rfl, rfl, rfl, rfl, rfl⟩, ⟨rfl, rfl, rfl, rfl, rfl⟩, trivial⟩ (memOk_box rfl rfl (by rw [← q3]; rfl) (memOk_box rfl rfl rfl (memOk_box rfl rfl rfl trivial)))⟩
          have hc : (!vld acc) = false := hc
          have hvf : vld acc = true := by cases hh : vld acc; rw [hh] at hc; cases hc; rfl
          rw [if_pos hvf] at q1 q2 q3
          repeat' (first | refine tr_seq ?_ | refine tr_block ?_ | refine tr_skip ?_)
          first | refine reg (T := tab) tOk hnt rfl ?_ ?_ | refine regD (T := tab) tOk mixedR hnt rfl (by decide +kernel) ?_ ?_
          · (dsimp only [AllP]; (repeat' first | exact trivial | assumption | exact Nat.le_of_ble_eq_true rfl | apply And.intro | exact eCells_len1 _ _ ‹_› | exact eCells_isByte _ _ ‹_› | (intro hh_; have hg_ := hh_; (try simp only [condT_ff, condF_tt, notE_t, notE_f, Bool.and_eq_true, ne_eq, decide_eq_true_eq, decide_eq_false_iff_not] at hg_)) | intro _ | exact rfl | omega))
          rw [bytesOf_eCells]
          dsimp only at q1 q2 q3
          subst q1
          subst q2
          refine tr_ret ⟨.inr rfl, _, _, _, rfl, by (repeat' first | exact trivial | exact Nat.le_of_ble_eq_true rfl | apply And.intro), rfl, fun X => le_of (ad := []) ⟨⟨⟨rfl, rfl⟩, ⟨rfl, rfl⟩, trivial⟩, ⟨rfl, rfl, rfl, rfl, rfl⟩, ⟨rfl, rfl, rfl, rfl, rfl⟩, ⟨rfl, rfl, rfl, rfl, rfl⟩, trivial⟩ (memOk_box rfl rfl (by rw [← q3]; rfl) (memOk_box rfl rfl rfl (memOk_box rfl rfl rfl trivial)))⟩
        have hc := of_decide_eq_false hc
        have hd1 : ¬ d = 1 := fun e => hc (by rw [e]; rfl)
        rw [if_neg hd1] at q1 q2 q3
        repeat' (first | refine tr_seq ?_ | refine reg (T := tab) tOk hnt rfl ?_ ?_ | refine regD (T := tab) tOk mixedR hnt rfl (by decide +kernel) ?_ ?_ | refine tr_block ?_ | refine tr_skip ?_)
        · (dsimp only [AllP]; (repeat' first | exact trivial | assumption | exact Nat.le_of_ble_eq_true rfl | apply And.intro | decide | intro _ | exact rfl))
        repeat' (first | refine tr_seq ?_ | refine tr_block ?_ | refine tr_skip ?_)
        refine tr_cond rfl (fun hc => ?_) (fun hc => ?_)
        · have hc : (!decide ((d.toNat : Int) = 255)) = true := hc
          have hd2 : d ≠ 255 := fun e => by rw [e] at hc; exact absurd hc (by decide)
          rw [if_pos hd2] at q1 q2 q3
          repeat' (first | refine tr_seq ?_ | refine reg (T := tab) tOk hnt rfl ?_ ?_ | refine regD (T := tab) tOk mixedR hnt rfl (by decide +kernel) ?_ ?_ | refine tr_block ?_ | refine tr_skip ?_)
          · (dsimp only [AllP]; (repeat' first | exact trivial | assumption | exact Nat.le_of_ble_eq_true rfl | apply And.intro | decide | intro _ | exact rfl))
          dsimp only at q1 q2 q3
          subst q1
          subst q2
          refine tr_ret ⟨.inr rfl, _, _, _, rfl, by (repeat' first | exact trivial | exact Nat.le_of_ble_eq_true rfl | apply And.intro), rfl, fun X => le_of (ad := []) ⟨⟨⟨rfl, rfl⟩, ⟨rfl, rfl⟩, trivial⟩, ⟨rfl, rfl, rfl, rfl, rfl⟩, ⟨rfl, rfl, rfl, rfl, rfl⟩, ⟨rfl, rfl, rfl, rfl, rfl⟩, trivial⟩ (memOk_box rfl rfl (by rw [← q3]; rfl) (memOk_box rfl rfl rfl (memOk_box rfl rfl rfl trivial)))⟩
        have hc : (!decide ((d.toNat : Int) = 255)) = false := hc
        have hd2 : ¬ d ≠ 255 := fun e => by
          rw [Bool.not_eq_false', decide_eq_true_eq] at hc
          exact e (UInt8.toNat_inj.1 (by show d.toNat = 255; omega))
        rw [if_neg hd2] at q1 q2 q3
        repeat' (first | refine tr_seq ?_ | refine reg (T := tab) tOk hnt rfl ?_ ?_ | refine regD (T := tab) tOk mixedR hnt rfl (by decide +kernel) ?_ ?_ | refine tr_block ?_ | refine tr_skip ?_)
        · (dsimp only [AllP]; (repeat' first | exact trivial | assumption | exact Nat.le_of_ble_eq_true rfl | apply And.intro | decide | intro _ | exact rfl))
        repeat' (first | refine tr_seq ?_ | refine tr_block ?_ | refine tr_skip ?_)
        refine tr_cond rfl (fun hc => ?_) (fun hc => ?_)
        · have hc := of_decide_eq_true hc
          have hc : ((eCells acc).length : Int) = 40 := hc
          rw [eCells_length] at hc
          rw [if_pos (by omega)] at q1 q2 q3
          repeat' (first | refine tr_seq ?_ | refine reg (T := tab) tOk hnt rfl ?_ ?_ | refine regD (T := tab) tOk mixedR hnt rfl (by decide +kernel) ?_ ?_ | refine tr_block ?_ | refine tr_skip ?_)
          · (dsimp only [AllP]; (repeat' first | exact trivial | assumption | exact Nat.le_of_ble_eq_true rfl | apply And.intro | decide | intro _ | exact rfl))
          dsimp only at q1 q2 q3
          subst q1
          subst q2
          refine tr_ret ⟨.inr rfl, _, _, _, rfl, by (repeat' first | exact trivial | exact Nat.le_of_ble_eq_true rfl | apply And.intro), rfl, fun X => le_of (ad := []) ⟨⟨⟨rfl, rfl⟩, ⟨rfl, rfl⟩, trivial⟩, ⟨rfl, rfl, rfl, rfl, rfl⟩, ⟨rfl, rfl, rfl, rfl, rfl⟩, ⟨rfl, rfl, rfl, rfl, rfl⟩, trivial⟩ (memOk_box rfl rfl (by rw [← q3]; rfl) (memOk_box rfl rfl rfl (memOk_box rfl rfl rfl trivial)))⟩
        have hc := of_decide_eq_false hc
        have hc : ¬ ((eCells acc).length : Int) = 40 := hc
        rw [eCells_length] at hc
        rw [if_neg (by omega)] at q1 q2 q3
        have hcl : (eCells acc).length = acc.length := eCells_length acc
        repeat' (first | refine tr_seq ?_ | refine tr_block ?_ | refine tr_skip ?_)
        first | refine reg (T := tab) tOk hnt rfl ?_ ?_ | refine regD (T := tab) tOk mixedR hnt rfl (by decide +kernel) ?_ ?_
        · (dsimp only [AllP]; (repeat' first | exact trivial | assumption | exact Nat.le_of_ble_eq_true rfl | apply And.intro | exact eCells_len1 _ _ ‹_› | exact eCells_isByte _ _ ‹_› | (intro hh_; have hg_ := hh_; (try simp only [condT_ff, condF_tt, notE_t, notE_f, Bool.and_eq_true, ne_eq, decide_eq_true_eq, decide_eq_false_iff_not] at hg_)) | intro _ | exact rfl | omega))
          all_goals first | (show (eCells _).length + 1 ≤ maxLen; unfold maxLen; omega) | (show ((eCells _).length + 1) * 1 ≤ _; omega)
        refine ⟨(i + 1 + 1, acc ++ [0]), ⟨⟨q1, q2, by dsimp only at q3 ⊢; omega⟩, by dsimp only; omega, by dsimp only; rw [List.length_append]; show acc.length + 1 ≤ 40; omega⟩, by dsimp only; omega, le_of (ad := []) (by refine ⟨?_, ?_, ?_, ?_, ?_, ?_, ?_, trivial⟩ <;> first | exact trivial | rfl | exact ⟨rfl, rfl⟩ | exact ⟨rfl, rfl, rfl⟩ | exact ⟨rfl, rfl, rfl, rfl⟩ | exact ⟨rfl, rfl, rfl, rfl, rfl⟩ | exact congrArg (fun z : Int => E.v (.int .i64 z)) (wrap64_id (by omega) (by omega)) | (refine ⟨rfl, ?_⟩; repeat' first | exact trivial | rfl | apply And.intro)) (memOk_box rfl rfl rfl (memOk_box rfl rfl rfl (memOk_box rfl rfl rfl (memOk_row rfl rfl (eCells_append acc [0]) trivial))))⟩
      · have hn := nextEnd_fn (i + 1) b f (by omega)
        rw [sv_nil (by omega), txF_z0] at q1 q2 q3
        repeat' (first | refine tr_seq ?_ | refine tr_block ?_ | refine tr_skip ?_)
        refine tr_region (lex (T := tab) tOk hnt rfl ?_ (callH (us := []) [(900000, 900000), (900001, 900001), (900002, 900002)] [] [] rfl rfl rfl rfl (hn) (by repeat' first | exact .nil | refine .lent rfl rfl rfl ?_ | refine .data rfl ?_) (fun _ => rfl) rfl rfl hnt rfl rfl (by repeat' first | exact trivial | rfl | apply And.intro) (by repeat' first | exact trivial | rfl | apply And.intro) (lex (T := tab) tOk hnt rfl ?_ (Lex.nil _)))) ?_
        · (dsimp only [AllP]; (repeat' first | exact trivial | assumption | exact Nat.le_of_ble_eq_true rfl | apply And.intro | exact eCells_len1 _ _ ‹_› | exact eCells_isByte _ _ ‹_› | (intro hh_; have hg_ := hh_; (try simp only [condT_ff, condF_tt, notE_t, notE_f, Bool.and_eq_true, ne_eq, decide_eq_true_eq, decide_eq_false_iff_not] at hg_)) | intro _ | exact rfl | omega))
        · (dsimp only [AllP]; (repeat' first | exact trivial | assumption | exact Nat.le_of_ble_eq_true rfl | apply And.intro | exact eCells_len1 _ _ ‹_› | exact eCells_isByte _ _ ‹_› | (intro hh_; have hg_ := hh_; (try simp only [condT_ff, condF_tt, notE_t, notE_f, Bool.and_eq_true, ne_eq, decide_eq_true_eq, decide_eq_false_iff_not] at hg_)) | intro _ | exact rfl | omega))
        refine tr_le (s' := St.of [(0, clN), (4, .one (.own 35 0)), (8, .v (.bool false)), (900000, .one (.ptr 900000 0 0)), (900001, .one (.ptr 900001 0 0)), (900002, .one (.ptr 900002 0 0)), ((1000000 + 0), .one (.eptr fsE)), ((1000000 + 1), .one (.eptr acE))] [(900000, ⟨0, .box (.es [eI ((i + 1 : Nat) : Int)]), 0⟩), (900001, ⟨0, .box (.es [eBytes b]), 0⟩), (900002, ⟨0, .box (.es [eB f]), 0⟩), (35, ⟨0, .row 1 (eCells acc), 0⟩)]) (le_of (ad := []) (by refine ⟨?_, ?_, ?_, ?_, ?_, ?_, ?_, ?_, trivial⟩ <;> first | exact trivial | rfl | exact ⟨rfl, rfl⟩ | exact ⟨rfl, rfl, rfl⟩ | exact ⟨rfl, rfl, rfl, rfl⟩ | exact ⟨rfl, rfl, rfl, rfl, rfl⟩ | exact congrArg (fun z : Int => E.v (.int .i64 z)) (wrap64_id (by omega) (by omega)) | (refine ⟨rfl, ?_⟩; repeat' first | exact trivial | rfl | apply And.intro)) (memOk_box rfl rfl rfl (memOk_box rfl rfl rfl (memOk_box rfl rfl rfl (memOk_row rfl rfl rfl trivial))))) ?_
        repeat' (first | refine tr_seq ?_ | refine reg (T := tab) tOk hnt rfl ?_ ?_ | refine regD (T := tab) tOk mixedR hnt rfl (by decide +kernel) ?_ ?_ | refine tr_block ?_ | refine tr_skip ?_)
        · (dsimp only [AllP]; (repeat' first | exact trivial | assumption | exact Nat.le_of_ble_eq_true rfl | apply And.intro | decide | intro _ | exact rfl))
        repeat' (first | refine tr_seq ?_ | refine tr_block ?_ | refine tr_skip ?_)
        refine tr_cond rfl (fun hc => ?_) (fun hc => ?_)
        · repeat' (first | refine tr_seq ?_ | refine reg (T := tab) tOk hnt rfl ?_ ?_ | refine regD (T := tab) tOk mixedR hnt rfl (by decide +kernel) ?_ ?_ | refine tr_block ?_ | refine tr_skip ?_)
          · (dsimp only [AllP]; (repeat' first | exact trivial | assumption | exact Nat.le_of_ble_eq_true rfl | apply And.intro | decide | intro _ | exact rfl))
          dsimp only at q1 q2 q3
          subst q1
          subst q2
          refine tr_ret ⟨.inr rfl, _, _, _, rfl, by (repeat' first | exact trivial | exact Nat.le_of_ble_eq_true rfl | apply And.intro), rfl, fun X => le_of (ad := []) ⟨⟨⟨rfl, rfl⟩, ⟨rfl, rfl⟩, trivial⟩, ⟨rfl, rfl, rfl, rfl, rfl⟩, ⟨rfl, rfl, rfl, rfl, rfl⟩, ⟨rfl, rfl, rfl, rfl, rfl⟩, trivial⟩ (memOk_box rfl rfl (by rw [← q3]; rfl) (memOk_box rfl rfl rfl (memOk_box rfl rfl rfl trivial)))⟩
        first | exact absurd (show false = true from hc) Bool.false_ne_true | exact absurd (show true = false from hc).symm Bool.false_ne_true
    have hc := of_decide_eq_false hc
    have hc0 : c ≠ 0 := fun e => hc (by rw [e]; rfl)
    rw [txF_ne _ _ hc0] at q1 q2 q3
    repeat' (first | refine tr_seq ?_ | refine reg (T := tab) tOk hnt rfl ?_ ?_ | refine regD (T := tab) tOk mixedR hnt rfl (by decide +kernel) ?_ ?_ | refine tr_block ?_ | refine tr_skip ?_)
    · (dsimp only [AllP]; (repeat' first | exact trivial | assumption | exact Nat.le_of_ble_eq_true rfl | apply And.intro | decide | intro _ | exact rfl))
    repeat' (first | refine tr_seq ?_ | refine tr_block ?_ | refine tr_skip ?_)
    refine tr_cond rfl (fun hc => ?_) (fun hc => ?_)
    · have hc := of_decide_eq_true hc
      have hc : ((eCells acc).length : Int) = 40 := hc
      rw [eCells_length] at hc
      rw [if_pos (by omega)] at q1 q2 q3
      repeat' (first | refine tr_seq ?_ | refine reg (T := tab) tOk hnt rfl ?_ ?_ | refine regD (T := tab) tOk mixedR hnt rfl (by decide +kernel) ?_ ?_ | refine tr_block ?_ | refine tr_skip ?_)
      · (dsimp only [AllP]; (repeat' first | exact trivial | assumption | exact Nat.le_of_ble_eq_true rfl | apply And.intro | decide | intro _ | exact rfl))
      dsimp only at q1 q2 q3
      subst q1
      subst q2
      refine tr_ret ⟨.inr rfl, _, _, _, rfl, by (repeat' first | exact trivial | exact Nat.le_of_ble_eq_true rfl | apply And.intro), rfl, fun X => le_of (ad := []) ⟨⟨⟨rfl, rfl⟩, ⟨rfl, rfl⟩, trivial⟩, ⟨rfl, rfl, rfl, rfl, rfl⟩, ⟨rfl, rfl, rfl, rfl, rfl⟩, ⟨rfl, rfl, rfl, rfl, rfl⟩, trivial⟩ (memOk_box rfl rfl (by rw [← q3]; rfl) (memOk_box rfl rfl rfl (memOk_box rfl rfl rfl trivial)))⟩
    have hc := of_decide_eq_false hc
    have hc : ¬ ((eCells acc).length : Int) = 40 := hc
    rw [eCells_length] at hc
    rw [if_neg (by omega)] at q1 q2 q3
    have hcl : (eCells acc).length = acc.length := eCells_length acc
    repeat' (first | refine tr_seq ?_ | refine tr_block ?_ | refine tr_skip ?_)
    first | refine reg (T := tab) tOk hnt rfl ?_ ?_ | refine regD (T := tab) tOk mixedR hnt rfl (by decide +kernel) ?_ ?_
    · (dsimp only [AllP]; (repeat' first | exact trivial | assumption | exact Nat.le_of_ble_eq_true rfl | apply And.intro | exact eCells_len1 _ _ ‹_› | exact eCells_isByte _ _ ‹_› | (intro hh_; have hg_ := hh_; (try simp only [condT_ff, condF_tt, notE_t, notE_f, Bool.and_eq_true, ne_eq, decide_eq_true_eq, decide_eq_false_iff_not] at hg_)) | intro _ | exact rfl | omega))
      all_goals first | (show (eCells _).length + 1 ≤ maxLen; unfold maxLen; omega) | (show ((eCells _).length + 1) * 1 ≤ _; omega)
    refine ⟨(i + 1, acc ++ [c]), ⟨⟨q1, q2, by dsimp only at q3 ⊢; omega⟩, by dsimp only; omega, by dsimp only; rw [List.length_append]; show acc.length + 1 ≤ 40; omega⟩, by dsimp only; omega, le_of (ad := []) (by refine ⟨?_, ?_, ?_, ?_, ?_, ?_, ?_, trivial⟩ <;> first | exact trivial | rfl | exact ⟨rfl, rfl⟩ | exact ⟨rfl, rfl, rfl⟩ | exact ⟨rfl, rfl, rfl, rfl⟩ | exact ⟨rfl, rfl, rfl, rfl, rfl⟩ | exact congrArg (fun z : Int => E.v (.int .i64 z)) (wrap64_id (by omega) (by omega)) | (refine ⟨rfl, ?_⟩; repeat' first | exact trivial | rfl | apply And.intro)) (memOk_box rfl rfl rfl (memOk_box rfl rfl rfl (memOk_box rfl rfl rfl (memOk_row rfl rfl (eCells_append acc [c]) trivial))))⟩
  · have hn := nextEnd_fn i b f (by omega)
    rw [sv_nil (by omega), txF] at q1 q2 q3
    repeat' (first | refine tr_seq ?_ | refine tr_block ?_ | refine tr_skip ?_)
    refine tr_region (lex (T := tab) tOk hnt rfl ?_ (callH (us := []) [(900000, 900000), (900001, 900001), (900002, 900002)] [] [] rfl rfl rfl rfl (hn) (by repeat' first | exact .nil | refine .lent rfl rfl rfl ?_ | refine .data rfl ?_) (fun _ => rfl) rfl rfl hnt rfl rfl (by repeat' first | exact trivial | rfl | apply And.intro) (by repeat' first | exact trivial | rfl | apply And.intro) (lex (T := tab) tOk hnt rfl ?_ (Lex.nil _)))) ?_
    · (dsimp only [AllP]; (repeat' first | exact trivial | assumption | exact Nat.le_of_ble_eq_true rfl | apply And.intro | exact eCells_len1 _ _ ‹_› | exact eCells_isByte _ _ ‹_› | (intro hh_; have hg_ := hh_; (try simp only [condT_ff, condF_tt, notE_t, notE_f, Bool.and_eq_true, ne_eq, decide_eq_true_eq, decide_eq_false_iff_not] at hg_)) | intro _ | exact rfl | omega))
    · (dsimp only [AllP]; (repeat' first | exact trivial | assumption | exact Nat.le_of_ble_eq_true rfl | apply And.intro | exact eCells_len1 _ _ ‹_› | exact eCells_isByte _ _ ‹_› | (intro hh_; have hg_ := hh_; (try simp only [condT_ff, condF_tt, notE_t, notE_f, Bool.and_eq_true, ne_eq, decide_eq_true_eq, decide_eq_false_iff_not] at hg_)) | intro _ | exact rfl | omega))
    refine tr_le (s' := St.of [(0, clN), (4, .one (.own 35 0)), (6, .v (.bool false)), (900000, .one (.ptr 900000 0 0)), (900001, .one (.ptr 900001 0 0)), (900002, .one (.ptr 900002 0 0)), ((1000000 + 0), .one (.eptr fsE)), ((1000000 + 1), .one (.eptr acE))] [(900000, ⟨0, .box (.es [eI ((i : Nat) : Int)]), 0⟩), (900001, ⟨0, .box (.es [eBytes b]), 0⟩), (900002, ⟨0, .box (.es [eB f]), 0⟩), (35, ⟨0, .row 1 (eCells acc), 0⟩)]) (le_of (ad := []) (by refine ⟨?_, ?_, ?_, ?_, ?_, ?_, ?_, ?_, trivial⟩ <;> first | exact trivial | rfl | exact ⟨rfl, rfl⟩ | exact ⟨rfl, rfl, rfl⟩ | exact ⟨rfl, rfl, rfl, rfl⟩ | exact ⟨rfl, rfl, rfl, rfl, rfl⟩ | exact congrArg (fun z : Int => E.v (.int .i64 z)) (wrap64_id (by omega) (by omega)) | (refine ⟨rfl, ?_⟩; repeat' first | exact trivial | rfl | apply And.intro)) (memOk_box rfl rfl rfl (memOk_box rfl rfl rfl (memOk_box rfl rfl rfl (memOk_row rfl rfl rfl trivial))))) ?_
    repeat' (first | refine tr_seq ?_ | refine reg (T := tab) tOk hnt rfl ?_ ?_ | refine regD (T := tab) tOk mixedR hnt rfl (by decide +kernel) ?_ ?_ | refine tr_block ?_ | refine tr_skip ?_)
    · (dsimp only [AllP]; (repeat' first | exact trivial | assumption | exact Nat.le_of_ble_eq_true rfl | apply And.intro | decide | intro _ | exact rfl))
    repeat' (first | refine tr_seq ?_ | refine tr_block ?_ | refine tr_skip ?_)
    refine tr_cond rfl (fun hc => ?_) (fun hc => ?_)
    · repeat' (first | refine tr_seq ?_ | refine reg (T := tab) tOk hnt rfl ?_ ?_ | refine regD (T := tab) tOk mixedR hnt rfl (by decide +kernel) ?_ ?_ | refine tr_block ?_ | refine tr_skip ?_)
      · (dsimp only [AllP]; (repeat' first | exact trivial | assumption | exact Nat.le_of_ble_eq_true rfl | apply And.intro | decide | intro _ | exact rfl))
      dsimp only at q1 q2 q3
      subst q1
      subst q2
      refine tr_ret ⟨.inr rfl, _, _, _, rfl, by (repeat' first | exact trivial | exact Nat.le_of_ble_eq_true rfl | apply And.intro), rfl, fun X => le_of (ad := []) ⟨⟨⟨rfl, rfl⟩, ⟨rfl, rfl⟩, trivial⟩, ⟨rfl, rfl, rfl, rfl, rfl⟩, ⟨rfl, rfl, rfl, rfl, rfl⟩, ⟨rfl, rfl, rfl, rfl, rfl⟩, trivial⟩ (memOk_box rfl rfl (by rw [← q3]; rfl) (memOk_box rfl rfl rfl (memOk_box rfl rfl rfl trivial)))⟩
    first | exact absurd (show false = true from hc) Bool.false_ne_true | exact absurd (show true = false from hc).symm Bool.false_ne_true
end Go.Proofs.YtcjeeoimjkhijaaDoor
namespace Go.Proofs.YtcjeeoimjkhijaaDoor
open Go Go.RowKit Go.Proofs.YtcjeeoimjkhijaaDoor.Ab
set_option linter.unusedSimpArgs false
set_option linter.unusedVariables false

abbrev topQ : BitVec 64 := BitVec.twoPow 64 63
theorem topQ_nat : (topQ.toNat : Int) = 9223372036854775808 := by decide
theorem bit63 (x : BitVec 64) : x.getLsbD 63 = decide (9223372036854775808 ≤ x.toNat) := by
  have h := BitVec.msb_eq_decide x
  rw [BitVec.msb_eq_getLsbD_last] at h
  exact h
theorem and_top (x : BitVec 64) : ((x &&& topQ).toNat = 0) ↔ x.toNat < 9223372036854775808 := by
  rw [BitVec.and_twoPow, bit63]
  by_cases h : 9223372036854775808 ≤ x.toNat
  · rw [decide_eq_true h, if_pos rfl]
    constructor
    · intro h1; exact absurd h1 (by decide)
    · intro h1; omega
  · rw [decide_eq_false h, if_neg Bool.false_ne_true]
    constructor
    · intro _; omega
    · intro _; rfl
theorem xor_top_lt (x : BitVec 64) (h : x.toNat < 9223372036854775808) : x ^^^ topQ = x + topQ ∧ x ||| topQ = x + topQ := by
  have h0 : x &&& topQ = 0#64 := BitVec.eq_of_toNat_eq (by rw [(and_top x).2 h]; rfl)
  have h1 := BitVec.add_eq_or_of_and_eq_zero x topQ h0
  refine ⟨?_, h1.symm⟩
  rw [h1]
  apply BitVec.eq_of_getLsbD_eq
  intro i hi
  have h2 := congrArg (fun y => y.getLsbD i) h0
  simp only [BitVec.getLsbD_and] at h2
  rw [BitVec.getLsbD_xor, BitVec.getLsbD_or]
  revert h2
  cases x.getLsbD i <;> cases topQ.getLsbD i <;> simp
theorem top_top : topQ + topQ = 0#64 := by decide
theorem xor_top (x : BitVec 64) : x ^^^ topQ = x + topQ := by
  by_cases h : x.toNat < 9223372036854775808
  · exact (xor_top_lt x h).1
  · have hz : ((x ^^^ topQ) &&& topQ).toNat = 0 := by
      have hb : (x &&& topQ) = topQ := by
        rw [BitVec.and_twoPow, bit63, decide_eq_true (by omega), if_pos rfl]
      have : (x ^^^ topQ) &&& topQ = 0#64 := by
        apply BitVec.eq_of_getLsbD_eq
        intro i hi
        have h2 := congrArg (fun y => y.getLsbD i) hb
        simp only [BitVec.getLsbD_and] at h2
        rw [BitVec.getLsbD_and, BitVec.getLsbD_xor]
        revert h2
        cases x.getLsbD i <;> cases topQ.getLsbD i <;> simp
      rw [this]
      rfl
    have h3 := (xor_top_lt (x ^^^ topQ) ((and_top _).1 hz)).1
    rw [BitVec.xor_assoc, BitVec.xor_self, BitVec.xor_zero] at h3
    generalize x ^^^ topQ = y at *
    rw [h3, BitVec.add_assoc, top_top, BitVec.add_zero]
def bkF (n : BitVec 64) : BitVec 64 := if n.toNat < 9223372036854775808 then ~~~n else n + topQ
theorem q_andn (x y : BitVec 64) : IntKind.u64.wrap (((BitVec.ofInt IntKind.u64.bits (x.toNat : Int)) &&& ~~~(BitVec.ofInt IntKind.u64.bits (y.toNat : Int))).toNat : Int) = ((x &&& ~~~y).toNat : Int) := by
  rw [show IntKind.u64.bits = 64 from rfl, q_of, q_of, q_id]
theorem andn_top (x : BitVec 64) (h : ¬ x.toNat < 9223372036854775808) : x &&& ~~~topQ = x + topQ := by
  rw [← xor_top]
  have hb : (x &&& topQ) = topQ := by
    rw [BitVec.and_twoPow, bit63, decide_eq_true (by omega), if_pos rfl]
  apply BitVec.eq_of_getLsbD_eq
  intro i hi
  have h2 := congrArg (fun y => y.getLsbD i) hb
  simp only [BitVec.getLsbD_and] at h2
  rw [BitVec.getLsbD_and, BitVec.getLsbD_xor, BitVec.getLsbD_not]
  revert h2
  cases x.getLsbD i <;> cases topQ.getLsbD i <;> simp [hi]
/-- eight bytes as a word -/
def nmF (l : List UInt8) : BitVec 64 := l.foldl (fun n c => (n <<< 8) ||| BitVec.ofNat 64 c.toNat) 0#64
def viF (n : BitVec 64) : Int := IntKind.i64.wrap ((n ^^^ topQ).toNat : Int)
def ckF (v : Val) (k : Nat) : Val × Int × Nat := if chk v ≠ 0 then (val0, 3, k) else (v, 0, k)
def rdF : List UInt8 → Val × Int × Nat
  | [] => (val0, 4, 0)
  | k :: r =>
    if k = 1 then (val0, 0, 1) else
    if k = 2 then (if r.length = 0 then (val0, 4, 1) else ckF ⟨1, ((r.getD 0 0).toNat : Int), 0#64, []⟩ 2) else
    if k = 3 ∨ k = 4 then (if r.length < 8 then (val0, 4, 1 + r.length) else if k = 3 then ckF ⟨2, viF (nmF (r.take 8)), 0#64, []⟩ 9 else ckF ⟨3, 0, bkF (nmF (r.take 8)), []⟩ 9) else
    if k = 5 then (if (txF [] r).2.1 ≠ 0 then (val0, (txF [] r).2.1, 1 + (txF [] r).2.2) else ckF ⟨4, 0, 0#64, (txF [] r).1⟩ (1 + (txF [] r).2.2)) else
    (val0, 3, 1)
def rV (q : Val × Int × Nat) : D := .tup [(true, .es (eVal q.1)), (false, .es [eI q.2.1])]
set_option maxRecDepth 10000 in
set_option maxHeartbeats 2000000 in
theorem back_fn (x : BitVec 64) : FnD Tryd.prog 81 [.one (.e (eQ x))] (.one (.e (eQ (bkF x)))) := by
  refine fn_intro (T := tab) tOk Tryd.func81 rfl (by kernel_rfl) (by simp [Tryd.ntmps81]) ?_
  intro X hX
  have hnt : X.nt = 10 := hX
  clear hX
  have ha : IntKind.u64.wrap ((BitVec.ofInt IntKind.u64.bits (x.toNat : Int) &&& BitVec.ofInt IntKind.u64.bits 9223372036854775808).toNat : Int) = ((x &&& topQ).toNat : Int) := by
    rw [← topQ_nat]; exact q_and x topQ
  have hat := and_top x
  have han : IntKind.u64.wrap ((BitVec.ofInt IntKind.u64.bits (x.toNat : Int) &&& ~~~BitVec.ofInt IntKind.u64.bits 9223372036854775808).toNat : Int) = ((x &&& ~~~topQ).toNat : Int) := by
    rw [← topQ_nat]; exact q_andn x topQ
  unfold bkF
  repeat' (first | refine tr_seq ?_ | refine reg (T := tab) tOk hnt rfl ?_ ?_ | refine regD (T := tab) tOk mixedR hnt rfl (by decide +kernel) ?_ ?_ | refine tr_block ?_ | refine tr_skip ?_)
  · (dsimp only [AllP]; (repeat' first | exact trivial | assumption | exact Nat.le_of_ble_eq_true rfl | apply And.intro | decide | intro _ | exact rfl))
  rw [ha]
  repeat' (first | refine tr_seq ?_ | refine reg (T := tab) tOk hnt rfl ?_ ?_ | refine regD (T := tab) tOk mixedR hnt rfl (by decide +kernel) ?_ ?_ | refine tr_block ?_ | refine tr_skip ?_)
  · (dsimp only [AllP]; (repeat' first | exact trivial | assumption | exact Nat.le_of_ble_eq_true rfl | apply And.intro | decide | intro _ | exact rfl))
  repeat' (first | refine tr_seq ?_ | refine tr_block ?_ | refine tr_skip ?_)
  refine tr_cond rfl (fun hc => ?_) (fun hc => ?_)
  · simp only [condT_tt, condT_ff, condF_tt, condF_ff, notE_t, notE_f, decide_eq_true_eq, decide_eq_false_iff_not] at hc
    rw [if_neg (by omega)]
    repeat' (first | refine tr_seq ?_ | refine reg (T := tab) tOk hnt rfl ?_ ?_ | refine regD (T := tab) tOk mixedR hnt rfl (by decide +kernel) ?_ ?_ | refine tr_block ?_ | refine tr_skip ?_)
    · (dsimp only [AllP]; (repeat' first | exact trivial | assumption | exact Nat.le_of_ble_eq_true rfl | apply And.intro | decide | intro _ | exact rfl))
    refine tr_ret ⟨.inr rfl, _, _, rfl, by trivial, ?_⟩
    exact congrArg (fun z : Int => D.one (D0.e (E.v (.int .u64 z)))) (han.trans (congrArg (fun z : BitVec 64 => (z.toNat : Int)) (andn_top x (by omega))))
  simp only [condT_tt, condT_ff, condF_tt, condF_ff, notE_t, notE_f, decide_eq_true_eq, decide_eq_false_iff_not] at hc
  rw [if_pos (by omega)]
  repeat' (first | refine tr_seq ?_ | refine reg (T := tab) tOk hnt rfl ?_ ?_ | refine regD (T := tab) tOk mixedR hnt rfl (by decide +kernel) ?_ ?_ | refine tr_block ?_ | refine tr_skip ?_)
  · (dsimp only [AllP]; (repeat' first | exact trivial | assumption | exact Nat.le_of_ble_eq_true rfl | apply And.intro | decide | intro _ | exact rfl))
  refine tr_ret ⟨.inr rfl, _, _, rfl, by trivial, ?_⟩
  exact congrArg (fun z : Int => D.one (D0.e (E.v (.int .u64 z)))) (q_not x)
theorem sv_len (b : List UInt8) (a : Nat) (f : UInt8) : (sv b a f).length = b.length - a := by
  unfold sv
  rw [List.length_map, List.length_drop]
theorem sv_get {b : List UInt8} {a j : Nat} {f : UInt8} (h : a + j < b.length) : (sv b a f).getD j 0 = b.getD (a + j) 0 ^^^ f := by
  unfold sv
  rw [List.getD_eq_getElem?_getD, List.getElem?_map, List.getElem?_drop, List.getElem?_eq_getElem h, List.getD_eq_getElem?_getD, List.getElem?_eq_getElem h]
  rfl
theorem nmF_app (l : List UInt8) (c : UInt8) : nmF (l ++ [c]) = (nmF l <<< 8) ||| BitVec.ofNat 64 c.toNat := by
  unfold nmF
  rw [List.foldl_append]
  rfl
theorem nm_step (l : List UInt8) (j : Nat) (h : j < l.length) : IntKind.u64.wrap ((BitVec.ofInt IntKind.u64.bits (IntKind.u64.wrap (((nmF (l.take j)).toNat : Int) * 2 ^ min (Int.toNat 8) IntKind.u64.bits)) ||| BitVec.ofInt IntKind.u64.bits (IntKind.u64.wrap ((l.getD j 0).toNat : Int))).toNat : Int) = ((nmF (l.take (j + 1))).toNat : Int) := by
  have hts : l.take (j + 1) = l.take j ++ [l.getD j 0] := take_succ h
  rw [hts, nmF_app, show min (Int.toNat 8) IntKind.u64.bits = 8 from rfl, q_shl, q_byte]
  exact q_or _ _
theorem vi_of (n : BitVec 64) : IntKind.i64.wrap (IntKind.u64.wrap ((BitVec.ofInt IntKind.u64.bits (n.toNat : Int) ^^^ BitVec.ofInt IntKind.u64.bits 9223372036854775808).toNat : Int)) = viF n := by
  have : IntKind.u64.wrap ((BitVec.ofInt IntKind.u64.bits (n.toNat : Int) ^^^ BitVec.ofInt IntKind.u64.bits 9223372036854775808).toNat : Int) = ((n ^^^ topQ).toNat : Int) := by
    rw [← topQ_nat]
    exact q_xor _ _
  rw [this]
  rfl
theorem inj8 {c : UInt8} {n : Nat} (h : (c.toNat : Int) - 1 = (n : Int)) (hn : n + 1 < 256) : c = UInt8.ofNat (n + 1) := by
  apply UInt8.toNat_inj.1
  rw [UInt8.toNat_ofNat']
  omega
set_option maxRecDepth 10000 in
set_option maxHeartbeats 2000000 in
theorem read_fn (a : Nat) (b : List UInt8) (f : UInt8) (h : a ≤ b.length) (hb : b.length ≤ maxLen) (hV : ∀ l : List UInt8, l.length ≤ 40 → FnG Tryd.prog 96 gK [.one (.e (eBytes l))] (.v (.bool (vld l)))) : FnH Tryd.prog 49 ((gK)) (msN a b f) [clN] (rV (rdF (sv b a f))) (msN (a + (rdF (sv b a f)).2.2) b f) := by
  refine fn_introH (T := tab) tOk Tryd.func49 rfl (by kernel_rfl) (by simp [Tryd.ntmps49]) rfl rfl ?_
  intro X hX
  have hnt : X.nt = 92 := hX
  clear hX
  generalize hT : rdF (sv b a f) = T at *
  obtain ⟨t1, t2, t3⟩ := T
  repeat' (first | refine tr_seq ?_ | refine tr_block ?_ | refine tr_skip ?_)
  first | refine reg (T := tab) tOk hnt rfl ?_ ?_ | refine regD (T := tab) tOk mixedR hnt rfl (by decide +kernel) ?_ ?_
  · (dsimp only [AllP]; (repeat' first | exact trivial | assumption | exact Nat.le_of_ble_eq_true rfl | apply And.intro | exact eCells_len1 _ _ ‹_› | exact eCells_isByte _ _ ‹_› | (intro hh_; have hg_ := hh_; (try simp only [condT_ff, condF_tt, notE_t, notE_f, Bool.and_eq_true, ne_eq, decide_eq_true_eq, decide_eq_false_iff_not] at hg_)) | intro _ | exact rfl | omega))
  by_cases hi : a < b.length
  · have hn := nextGo_fn a b f hi hb
    rw [sv_cons hi, rdF] at hT
    generalize b.getD a 0 ^^^ f = c at *
    have hcl := c.toNat_lt
    have hk : IntKind.i64.wrap (IntKind.i64.wrap (c.toNat : Int) - 1) = (c.toNat : Int) - 1 := by rw [wrapB, wrap64_id (by omega) (by omega)]
    repeat' (first | refine tr_seq ?_ | refine tr_block ?_ | refine tr_skip ?_)
    refine tr_region (lex (T := tab) tOk hnt rfl ?_ (callH (us := []) [(900000, 900000), (900001, 900001), (900002, 900002)] [] [] rfl rfl rfl rfl (hn) (by repeat' first | exact .nil | refine .lent rfl rfl rfl ?_ | refine .data rfl ?_) (fun _ => rfl) rfl rfl hnt rfl rfl (by repeat' first | exact trivial | rfl | apply And.intro) (by repeat' first | exact trivial | rfl | apply And.intro) (lex (T := tab) tOk hnt rfl ?_ (Lex.nil _)))) ?_
    · (dsimp only [AllP]; (repeat' first | exact trivial | assumption | exact Nat.le_of_ble_eq_true rfl | apply And.intro | exact eCells_len1 _ _ ‹_› | exact eCells_isByte _ _ ‹_› | (intro hh_; have hg_ := hh_; (try simp only [condT_ff, condF_tt, notE_t, notE_f, Bool.and_eq_true, ne_eq, decide_eq_true_eq, decide_eq_false_iff_not] at hg_)) | intro _ | exact rfl | omega))
    · (dsimp only [AllP]; (repeat' first | exact trivial | assumption | exact Nat.le_of_ble_eq_true rfl | apply And.intro | exact eCells_len1 _ _ ‹_› | exact eCells_isByte _ _ ‹_› | (intro hh_; have hg_ := hh_; (try simp only [condT_ff, condF_tt, notE_t, notE_f, Bool.and_eq_true, ne_eq, decide_eq_true_eq, decide_eq_false_iff_not] at hg_)) | intro _ | exact rfl | omega))
    refine tr_le (s' := St.of [(0, clN), (2, .one (.ptr 2 0 0)), (4, .one (.e (eB c))), (5, .v (.bool true)), (900000, .one (.ptr 900000 0 0)), (900001, .one (.ptr 900001 0 0)), (900002, .one (.ptr 900002 0 0)), ((1000000 + 0), .one (.eptr fsE)), ((1000000 + 1), .one (.eptr acE))] [(900000, ⟨0, .box (.es [eI ((a + 1 : Nat) : Int)]), 0⟩), (900001, ⟨0, .box (.es [eBytes b]), 0⟩), (900002, ⟨0, .box (.es [eB f]), 0⟩), (2, ⟨0, .box (.es (eVal val0)), 0⟩)]) (le_of (ad := []) (by refine ⟨?_, ?_, ?_, ?_, ?_, ?_, ?_, ?_, ?_, trivial⟩ <;> first | exact trivial | rfl | exact ⟨rfl, rfl⟩ | exact ⟨rfl, rfl, rfl⟩ | exact ⟨rfl, rfl, rfl, rfl⟩ | exact ⟨rfl, rfl, rfl, rfl, rfl⟩ | exact congrArg (fun z : Int => E.v (.int .i64 z)) (wrap64_id (by omega) (by omega)) | (refine ⟨rfl, ?_⟩; repeat' first | exact trivial | rfl | apply And.intro)) (memOk_box rfl rfl rfl (memOk_box rfl rfl rfl (memOk_box rfl rfl rfl (memOk_box rfl rfl rfl trivial))))) ?_
    repeat' (first | refine tr_seq ?_ | refine reg (T := tab) tOk hnt rfl ?_ ?_ | refine regD (T := tab) tOk mixedR hnt rfl (by decide +kernel) ?_ ?_ | refine tr_block ?_ | refine tr_skip ?_)
    · (dsimp only [AllP]; (repeat' first | exact trivial | assumption | exact Nat.le_of_ble_eq_true rfl | apply And.intro | decide | intro _ | exact rfl))
    repeat' (first | refine tr_seq ?_ | refine tr_block ?_ | refine tr_skip ?_)
    refine tr_cond rfl (fun hc => ?_) (fun hc => ?_)
    · first | exact absurd (show false = true from hc) Bool.false_ne_true | exact absurd (show true = false from hc).symm Bool.false_ne_true
    repeat' (first | refine tr_seq ?_ | refine tr_block ?_ | refine tr_skip ?_)
    first | refine reg (T := tab) tOk hnt rfl ?_ ?_ | refine regD (T := tab) tOk mixedR hnt rfl (by decide +kernel) ?_ ?_
    · (dsimp only [AllP]; (repeat' first | exact trivial | assumption | exact Nat.le_of_ble_eq_true rfl | apply And.intro | exact eCells_len1 _ _ ‹_› | exact eCells_isByte _ _ ‹_› | (intro hh_; have hg_ := hh_; (try simp only [condT_ff, condF_tt, notE_t, notE_f, Bool.and_eq_true, ne_eq, decide_eq_true_eq, decide_eq_false_iff_not] at hg_)) | intro _ | exact rfl | omega))
    refine tr_le (s' := St.of [(0, clN), (2, .one (.ptr 2 0 0)), (6, .one (.ptr 6 0 0)), (900000, .one (.ptr 900000 0 0)), (900001, .one (.ptr 900001 0 0)), (900002, .one (.ptr 900002 0 0)), ((1000000 + 0), .one (.eptr fsE)), ((1000000 + 1), .one (.eptr acE))] [(900000, ⟨0, .box (.es [eI ((a + 1 : Nat) : Int)]), 0⟩), (900001, ⟨0, .box (.es [eBytes b]), 0⟩), (900002, ⟨0, .box (.es [eB f]), 0⟩), (2, ⟨0, .box (.es (eVal val0)), 0⟩), (6, ⟨0, .box (.es (eVal ⟨(c.toNat : Int) - 1, 0, 0#64, []⟩)), 0⟩)]) (le_of (ad := []) (by refine ⟨?_, ?_, ?_, ?_, ?_, ?_, ?_, ?_, trivial⟩ <;> first | exact trivial | rfl | exact ⟨rfl, rfl⟩ | exact ⟨rfl, rfl, rfl⟩ | exact ⟨rfl, rfl, rfl, rfl⟩ | exact ⟨rfl, rfl, rfl, rfl, rfl⟩ | exact congrArg (fun z : Int => E.v (.int .i64 z)) (wrap64_id (by omega) (by omega)) | (refine ⟨rfl, ?_⟩; repeat' first | exact trivial | rfl | apply And.intro)) (memOk_box rfl rfl rfl (memOk_box rfl rfl rfl (memOk_box rfl rfl rfl (memOk_box rfl rfl rfl (memOk_box rfl rfl (by rw [← hk]; rfl) trivial)))))) ?_
    first | refine tr_join (σ := Val × Nat) (fun x => St.of [(2, .one (.ptr 2 0 0)), (6, .one (.ptr 6 0 0)), (900000, .one (.ptr 900000 0 0)), (900001, .one (.ptr 900001 0 0)), (900002, .one (.ptr 900002 0 0)), ((1000000 + 0), .one (.eptr fsE)), ((1000000 + 1), .one (.eptr acE))] [(900000, ⟨0, .box (.es [eI ((a + x.2 : Nat) : Int)]), 0⟩), (900001, ⟨0, .box (.es [eBytes b]), 0⟩), (900002, ⟨0, .box (.es [eB f]), 0⟩), (2, ⟨0, .box (.es (eVal val0)), 0⟩), (6, ⟨0, .box (.es (eVal x.1)), 0⟩)]) (fun x => ckF x.1 x.2 = (t1, t2, t3)) ?_ ?_ | refine tr_seq (tr_join (σ := Val × Nat) (fun x => St.of [(2, .one (.ptr 2 0 0)), (6, .one (.ptr 6 0 0)), (900000, .one (.ptr 900000 0 0)), (900001, .one (.ptr 900001 0 0)), (900002, .one (.ptr 900002 0 0)), ((1000000 + 0), .one (.eptr fsE)), ((1000000 + 1), .one (.eptr acE))] [(900000, ⟨0, .box (.es [eI ((a + x.2 : Nat) : Int)]), 0⟩), (900001, ⟨0, .box (.es [eBytes b]), 0⟩), (900002, ⟨0, .box (.es [eB f]), 0⟩), (2, ⟨0, .box (.es (eVal val0)), 0⟩), (6, ⟨0, .box (.es (eVal x.1)), 0⟩)]) (fun x => ckF x.1 x.2 = (t1, t2, t3)) ?_ ?_)
    · repeat' (first | refine tr_seq ?_ | refine reg (T := tab) tOk hnt rfl ?_ ?_ | refine regD (T := tab) tOk mixedR hnt rfl (by decide +kernel) ?_ ?_ | refine tr_block ?_ | refine tr_skip ?_)
      · (dsimp only [AllP]; (repeat' first | exact trivial | assumption | exact Nat.le_of_ble_eq_true rfl | apply And.intro | decide | intro _ | exact rfl))
      · (dsimp only [AllP]; (repeat' first | exact trivial | assumption | exact Nat.le_of_ble_eq_true rfl | apply And.intro | decide | intro _ | exact rfl))
      repeat' (first | refine tr_seq ?_ | refine tr_block ?_ | refine tr_skip ?_)
      refine tr_cond rfl (fun hc => ?_) (fun hc => ?_)
      · have hc := of_decide_eq_true hc
        have hc0 : c = 1 := inj8 (n := 0) hc (by decide)
        rw [if_pos hc0] at hT
        subst hc0
        repeat' (first | refine tr_seq ?_ | refine reg (T := tab) tOk hnt rfl ?_ ?_ | refine regD (T := tab) tOk mixedR hnt rfl (by decide +kernel) ?_ ?_ | refine tr_block ?_ | refine tr_skip ?_)
        · (dsimp only [AllP]; (repeat' first | exact trivial | assumption | exact Nat.le_of_ble_eq_true rfl | apply And.intro | decide | intro _ | exact rfl))
        cases hT
        refine tr_ret ⟨.inr rfl, _, _, _, rfl, by (repeat' first | exact trivial | exact Nat.le_of_ble_eq_true rfl | apply And.intro), rfl, fun X => le_of (ad := []) ⟨⟨⟨rfl, rfl⟩, ⟨rfl, rfl⟩, trivial⟩, ⟨rfl, rfl, rfl, rfl, rfl⟩, ⟨rfl, rfl, rfl, rfl, rfl⟩, ⟨rfl, rfl, rfl, rfl, rfl⟩, trivial⟩ (memOk_box rfl rfl (by first | rfl | (rw [Nat.add_assoc]; rfl)) (memOk_box rfl rfl rfl (memOk_box rfl rfl rfl trivial)))⟩
      have hc := of_decide_eq_false hc
      have hc0 : ¬ c = 1 := fun e => hc (by rw [e]; rfl)
      rw [if_neg hc0] at hT
      repeat' (first | refine tr_seq ?_ | refine reg (T := tab) tOk hnt rfl ?_ ?_ | refine regD (T := tab) tOk mixedR hnt rfl (by decide +kernel) ?_ ?_ | refine tr_block ?_ | refine tr_skip ?_)
      · (dsimp only [AllP]; (repeat' first | exact trivial | assumption | exact Nat.le_of_ble_eq_true rfl | apply And.intro | decide | intro _ | exact rfl))
      repeat' (first | refine tr_seq ?_ | refine tr_block ?_ | refine tr_skip ?_)
      refine tr_cond rfl (fun hc => ?_) (fun hc => ?_)
      · have hc := of_decide_eq_true hc
        have hc1 : c = 2 := inj8 (n := 1) hc (by decide)
        rw [if_pos hc1] at hT
        subst hc1
        by_cases hi2 : a + 1 < b.length
        · have hn := nextGo_fn (a + 1) b f hi2 hb
          rw [sv_cons hi2, if_neg (by rw [List.length_cons]; omega)] at hT
          have hT : ckF ⟨1, ((b.getD (a + 1) 0 ^^^ f).toNat : Int), 0#64, []⟩ 2 = (t1, t2, t3) := hT
          generalize b.getD (a + 1) 0 ^^^ f = d at *
          repeat' (first | refine tr_seq ?_ | refine tr_block ?_ | refine tr_skip ?_)
          refine tr_region (lex (T := tab) tOk hnt rfl ?_ (callH (us := []) [(900000, 900000), (900001, 900001), (900002, 900002)] [] [] rfl rfl rfl rfl (hn) (by repeat' first | exact .nil | refine .lent rfl rfl rfl ?_ | refine .data rfl ?_) (fun _ => rfl) rfl rfl hnt rfl rfl (by repeat' first | exact trivial | rfl | apply And.intro) (by repeat' first | exact trivial | rfl | apply And.intro) (lex (T := tab) tOk hnt rfl ?_ (Lex.nil _)))) ?_
          · (dsimp only [AllP]; (repeat' first | exact trivial | assumption | exact Nat.le_of_ble_eq_true rfl | apply And.intro | exact eCells_len1 _ _ ‹_› | exact eCells_isByte _ _ ‹_› | (intro hh_; have hg_ := hh_; (try simp only [condT_ff, condF_tt, notE_t, notE_f, Bool.and_eq_true, ne_eq, decide_eq_true_eq, decide_eq_false_iff_not] at hg_)) | intro _ | exact rfl | omega))
          · (dsimp only [AllP]; (repeat' first | exact trivial | assumption | exact Nat.le_of_ble_eq_true rfl | apply And.intro | exact eCells_len1 _ _ ‹_› | exact eCells_isByte _ _ ‹_› | (intro hh_; have hg_ := hh_; (try simp only [condT_ff, condF_tt, notE_t, notE_f, Bool.and_eq_true, ne_eq, decide_eq_true_eq, decide_eq_false_iff_not] at hg_)) | intro _ | exact rfl | omega))
          refine tr_le (s' := St.of [(2, .one (.ptr 2 0 0)), (6, .one (.ptr 6 0 0)), (7, .one (.e (eB d))), (8, .v (.bool true)), (900000, .one (.ptr 900000 0 0)), (900001, .one (.ptr 900001 0 0)), (900002, .one (.ptr 900002 0 0)), ((1000000 + 0), .one (.eptr fsE)), ((1000000 + 1), .one (.eptr acE))] [(900000, ⟨0, .box (.es [eI ((a + 2 : Nat) : Int)]), 0⟩), (900001, ⟨0, .box (.es [eBytes b]), 0⟩), (900002, ⟨0, .box (.es [eB f]), 0⟩), (2, ⟨0, .box (.es (eVal val0)), 0⟩), (6, ⟨0, .box (.es (eVal ⟨1, 0, 0#64, []⟩)), 0⟩)]) (le_of (ad := []) (by refine ⟨?_, ?_, ?_, ?_, ?_, ?_, ?_, ?_, ?_, trivial⟩ <;> first | exact trivial | rfl | exact ⟨rfl, rfl⟩ | exact ⟨rfl, rfl, rfl⟩ | exact ⟨rfl, rfl, rfl, rfl⟩ | exact ⟨rfl, rfl, rfl, rfl, rfl⟩ | exact congrArg (fun z : Int => E.v (.int .i64 z)) (wrap64_id (by omega) (by omega)) | (refine ⟨rfl, ?_⟩; repeat' first | exact trivial | rfl | apply And.intro)) (memOk_box rfl rfl rfl (memOk_box rfl rfl rfl (memOk_box rfl rfl rfl (memOk_box rfl rfl rfl (memOk_box rfl rfl rfl trivial)))))) ?_
          repeat' (first | refine tr_seq ?_ | refine reg (T := tab) tOk hnt rfl ?_ ?_ | refine regD (T := tab) tOk mixedR hnt rfl (by decide +kernel) ?_ ?_ | refine tr_block ?_ | refine tr_skip ?_)
          · (dsimp only [AllP]; (repeat' first | exact trivial | assumption | exact Nat.le_of_ble_eq_true rfl | apply And.intro | decide | intro _ | exact rfl))
          repeat' (first | refine tr_seq ?_ | refine tr_block ?_ | refine tr_skip ?_)
          refine tr_cond rfl (fun hc => ?_) (fun hc => ?_)
          · first | exact absurd (show false = true from hc) Bool.false_ne_true | exact absurd (show true = false from hc).symm Bool.false_ne_true
          repeat' (first | refine tr_seq ?_ | refine tr_block ?_ | refine tr_skip ?_)
          first | refine reg (T := tab) tOk hnt rfl ?_ ?_ | refine regD (T := tab) tOk mixedR hnt rfl (by decide +kernel) ?_ ?_
          · (dsimp only [AllP]; (repeat' first | exact trivial | assumption | exact Nat.le_of_ble_eq_true rfl | apply And.intro | exact eCells_len1 _ _ ‹_› | exact eCells_isByte _ _ ‹_› | (intro hh_; have hg_ := hh_; (try simp only [condT_ff, condF_tt, notE_t, notE_f, Bool.and_eq_true, ne_eq, decide_eq_true_eq, decide_eq_false_iff_not] at hg_)) | intro _ | exact rfl | omega))
          repeat' (first | refine tr_seq ?_ | refine tr_block ?_ | refine tr_skip ?_)
          refine ⟨(⟨1, (d.toNat : Int), 0#64, []⟩, 2), hT, le_of (ad := []) (by refine ⟨?_, ?_, ?_, ?_, ?_, ?_, ?_, trivial⟩ <;> first | exact trivial | rfl | exact ⟨rfl, rfl⟩ | exact ⟨rfl, rfl, rfl⟩ | exact ⟨rfl, rfl, rfl, rfl⟩ | exact ⟨rfl, rfl, rfl, rfl, rfl⟩ | exact congrArg (fun z : Int => E.v (.int .i64 z)) (wrap64_id (by omega) (by omega)) | (refine ⟨rfl, ?_⟩; repeat' first | exact trivial | rfl | apply And.intro)) (memOk_box rfl rfl rfl (memOk_box rfl rfl rfl (memOk_box rfl rfl rfl (memOk_box rfl rfl rfl (memOk_box rfl rfl (congrArg (fun z : Int => eVal ⟨1, z, 0#64, []⟩) (wrapB d)) trivial)))))⟩
        · have hn := nextEnd_fn (a + 1) b f (by omega)
          rw [sv_nil (by omega), if_pos (show ([] : List UInt8).length = 0 from rfl)] at hT
          repeat' (first | refine tr_seq ?_ | refine tr_block ?_ | refine tr_skip ?_)
          refine tr_region (lex (T := tab) tOk hnt rfl ?_ (callH (us := []) [(900000, 900000), (900001, 900001), (900002, 900002)] [] [] rfl rfl rfl rfl (hn) (by repeat' first | exact .nil | refine .lent rfl rfl rfl ?_ | refine .data rfl ?_) (fun _ => rfl) rfl rfl hnt rfl rfl (by repeat' first | exact trivial | rfl | apply And.intro) (by repeat' first | exact trivial | rfl | apply And.intro) (lex (T := tab) tOk hnt rfl ?_ (Lex.nil _)))) ?_
          · (dsimp only [AllP]; (repeat' first | exact trivial | assumption | exact Nat.le_of_ble_eq_true rfl | apply And.intro | exact eCells_len1 _ _ ‹_› | exact eCells_isByte _ _ ‹_› | (intro hh_; have hg_ := hh_; (try simp only [condT_ff, condF_tt, notE_t, notE_f, Bool.and_eq_true, ne_eq, decide_eq_true_eq, decide_eq_false_iff_not] at hg_)) | intro _ | exact rfl | omega))
          · (dsimp only [AllP]; (repeat' first | exact trivial | assumption | exact Nat.le_of_ble_eq_true rfl | apply And.intro | exact eCells_len1 _ _ ‹_› | exact eCells_isByte _ _ ‹_› | (intro hh_; have hg_ := hh_; (try simp only [condT_ff, condF_tt, notE_t, notE_f, Bool.and_eq_true, ne_eq, decide_eq_true_eq, decide_eq_false_iff_not] at hg_)) | intro _ | exact rfl | omega))
          refine tr_le (s' := St.of [(2, .one (.ptr 2 0 0)), (8, .v (.bool false)), (900000, .one (.ptr 900000 0 0)), (900001, .one (.ptr 900001 0 0)), (900002, .one (.ptr 900002 0 0))] [(900000, ⟨0, .box (.es [eI ((a + 1 : Nat) : Int)]), 0⟩), (900001, ⟨0, .box (.es [eBytes b]), 0⟩), (900002, ⟨0, .box (.es [eB f]), 0⟩), (2, ⟨0, .box (.es (eVal val0)), 0⟩)]) (le_of (ad := []) (by refine ⟨?_, ?_, ?_, ?_, ?_, trivial⟩ <;> first | exact trivial | rfl | exact ⟨rfl, rfl⟩ | exact ⟨rfl, rfl, rfl⟩ | exact ⟨rfl, rfl, rfl, rfl⟩ | exact ⟨rfl, rfl, rfl, rfl, rfl⟩ | exact congrArg (fun z : Int => E.v (.int .i64 z)) (wrap64_id (by omega) (by omega)) | (refine ⟨rfl, ?_⟩; repeat' first | exact trivial | rfl | apply And.intro)) (memOk_box rfl rfl rfl (memOk_box rfl rfl rfl (memOk_box rfl rfl rfl (memOk_box rfl rfl rfl trivial))))) ?_
          repeat' (first | refine tr_seq ?_ | refine reg (T := tab) tOk hnt rfl ?_ ?_ | refine regD (T := tab) tOk mixedR hnt rfl (by decide +kernel) ?_ ?_ | refine tr_block ?_ | refine tr_skip ?_)
          · (dsimp only [AllP]; (repeat' first | exact trivial | assumption | exact Nat.le_of_ble_eq_true rfl | apply And.intro | decide | intro _ | exact rfl))
          repeat' (first | refine tr_seq ?_ | refine tr_block ?_ | refine tr_skip ?_)
          refine tr_cond rfl (fun hc => ?_) (fun hc => ?_)
          · repeat' (first | refine tr_seq ?_ | refine reg (T := tab) tOk hnt rfl ?_ ?_ | refine regD (T := tab) tOk mixedR hnt rfl (by decide +kernel) ?_ ?_ | refine tr_block ?_ | refine tr_skip ?_)
            · (dsimp only [AllP]; (repeat' first | exact trivial | assumption | exact Nat.le_of_ble_eq_true rfl | apply And.intro | decide | intro _ | exact rfl))
            cases hT
            refine tr_ret ⟨.inr rfl, _, _, _, rfl, by (repeat' first | exact trivial | exact Nat.le_of_ble_eq_true rfl | apply And.intro), rfl, fun X => le_of (ad := []) ⟨⟨⟨rfl, rfl⟩, ⟨rfl, rfl⟩, trivial⟩, ⟨rfl, rfl, rfl, rfl, rfl⟩, ⟨rfl, rfl, rfl, rfl, rfl⟩, ⟨rfl, rfl, rfl, rfl, rfl⟩, trivial⟩ (memOk_box rfl rfl (by first | rfl | (rw [Nat.add_assoc]; rfl)) (memOk_box rfl rfl rfl (memOk_box rfl rfl rfl trivial)))⟩
          first | exact absurd (show false = true from hc) Bool.false_ne_true | exact absurd (show true = false from hc).symm Bool.false_ne_true
      have hc := of_decide_eq_false hc
      have hc1 : ¬ c = 2 := fun e => hc (by rw [e]; rfl)
      rw [if_neg hc1] at hT
      by_cases h3 : c = 3
      · rw [if_pos (.inl h3)] at hT
        subst h3
        rw [if_pos rfl] at hT
        repeat' (first | refine tr_seq ?_ | refine reg (T := tab) tOk hnt rfl ?_ ?_ | refine regD (T := tab) tOk mixedR hnt rfl (by decide +kernel) ?_ ?_ | refine tr_block ?_ | refine tr_skip ?_)
        · (dsimp only [AllP]; (repeat' first | exact trivial | assumption | exact Nat.le_of_ble_eq_true rfl | apply And.intro | decide | intro _ | exact rfl))
        repeat' (first | refine tr_seq ?_ | refine tr_block ?_ | refine tr_skip ?_)
        refine tr_cond rfl (fun hc => ?_) (fun hc => ?_)
        · repeat' (first | refine tr_seq ?_ | refine tr_block ?_ | refine tr_skip ?_)
          refine tr_cond rfl (fun hc => ?_) (fun hc => ?_)
          · repeat' (first | refine tr_seq ?_ | refine reg (T := tab) tOk hnt rfl ?_ ?_ | refine regD (T := tab) tOk mixedR hnt rfl (by decide +kernel) ?_ ?_ | refine tr_block ?_ | refine tr_skip ?_)
            · (dsimp only [AllP]; (repeat' first | exact trivial | assumption | exact Nat.le_of_ble_eq_true rfl | apply And.intro | decide | intro _ | exact rfl))
            · (dsimp only [AllP]; (repeat' first | exact trivial | assumption | exact Nat.le_of_ble_eq_true rfl | apply And.intro | decide | intro _ | exact rfl))
            repeat' (first | refine tr_seq ?_ | refine tr_block ?_ | refine tr_skip ?_)
            refine tr_loop (σ := Nat) (fun j => St.of [(0, clN), (2, .one (.ptr 2 0 0)), (6, .one (.ptr 6 0 0)), (9, .one (.e (eQ (nmF ((sv b (a + 1) f).take j))))), (48, .one (.e (eI (j : Int)))), (900000, .one (.ptr 900000 0 0)), (900001, .one (.ptr 900001 0 0)), (900002, .one (.ptr 900002 0 0)), ((1000000 + 0), .one (.eptr fsE)), ((1000000 + 1), .one (.eptr acE))] [(900000, ⟨0, .box (.es [eI ((a + 1 + j : Nat) : Int)]), 0⟩), (900001, ⟨0, .box (.es [eBytes b]), 0⟩), (900002, ⟨0, .box (.es [eB f]), 0⟩), (2, ⟨0, .box (.es (eVal val0)), 0⟩), (6, ⟨0, .box (.es (eVal ⟨2, 0, 0#64, []⟩)), 0⟩)]) (fun j => j ≤ 8 ∧ a + 1 + j ≤ b.length) (fun j => 8 - j) (0) (le_of (ad := []) (by refine ⟨?_, ?_, ?_, ?_, ?_, ?_, ?_, ?_, ?_, ?_, trivial⟩ <;> first | exact trivial | rfl | exact ⟨rfl, rfl⟩ | exact ⟨rfl, rfl, rfl⟩ | exact ⟨rfl, rfl, rfl, rfl⟩ | exact ⟨rfl, rfl, rfl, rfl, rfl⟩ | exact congrArg (fun z : Int => E.v (.int .i64 z)) (wrap64_id (by omega) (by omega)) | (refine ⟨rfl, ?_⟩; repeat' first | exact trivial | rfl | apply And.intro)) (memOk_box rfl rfl rfl (memOk_box rfl rfl rfl (memOk_box rfl rfl rfl (memOk_box rfl rfl rfl (memOk_box rfl rfl rfl trivial)))))) ⟨Nat.zero_le _, by omega⟩ ?_
            rintro j ⟨j8, jl⟩
            repeat' (first | refine tr_seq ?_ | refine reg (T := tab) tOk hnt rfl ?_ ?_ | refine regD (T := tab) tOk mixedR hnt rfl (by decide +kernel) ?_ ?_ | refine tr_block ?_ | refine tr_skip ?_)
            · (dsimp only [AllP]; (repeat' first | exact trivial | assumption | exact Nat.le_of_ble_eq_true rfl | apply And.intro | decide | intro _ | exact rfl))
            repeat' (first | refine tr_seq ?_ | refine tr_block ?_ | refine tr_skip ?_)
            refine tr_cond rfl (fun hc => ?_) (fun hc => ?_)
            · simp only [condT_tt, condT_ff, condF_tt, condF_ff, notE_t, notE_f, decide_eq_true_eq, decide_eq_false_iff_not] at hc
              have hj8 : j < 8 := by omega
              by_cases hj : a + 1 + j < b.length
              · have hn := nextGo_fn (a + 1 + j) b f hj hb
                have hst := nm_step (sv b (a + 1) f) j (by rw [sv_len]; omega)
                rw [sv_get (by omega)] at hst
                generalize b.getD (a + 1 + j) 0 ^^^ f = d at *
                repeat' (first | refine tr_seq ?_ | refine tr_block ?_ | refine tr_skip ?_)
                refine tr_region (lex (T := tab) tOk hnt rfl ?_ (callH (us := []) [(900000, 900000), (900001, 900001), (900002, 900002)] [] [] rfl rfl rfl rfl (hn) (by repeat' first | exact .nil | refine .lent rfl rfl rfl ?_ | refine .data rfl ?_) (fun _ => rfl) rfl rfl hnt rfl rfl (by repeat' first | exact trivial | rfl | apply And.intro) (by repeat' first | exact trivial | rfl | apply And.intro) (lex (T := tab) tOk hnt rfl ?_ (Lex.nil _)))) ?_
                · (dsimp only [AllP]; (repeat' first | exact trivial | assumption | exact Nat.le_of_ble_eq_true rfl | apply And.intro | exact eCells_len1 _ _ ‹_› | exact eCells_isByte _ _ ‹_› | (intro hh_; have hg_ := hh_; (try simp only [condT_ff, condF_tt, notE_t, notE_f, Bool.and_eq_true, ne_eq, decide_eq_true_eq, decide_eq_false_iff_not] at hg_)) | intro _ | exact rfl | omega))
                · (dsimp only [AllP]; (repeat' first | exact trivial | assumption | exact Nat.le_of_ble_eq_true rfl | apply And.intro | exact eCells_len1 _ _ ‹_› | exact eCells_isByte _ _ ‹_› | (intro hh_; have hg_ := hh_; (try simp only [condT_ff, condF_tt, notE_t, notE_f, Bool.and_eq_true, ne_eq, decide_eq_true_eq, decide_eq_false_iff_not] at hg_)) | intro _ | exact rfl | omega))
                refine tr_le (s' := St.of [(0, clN), (2, .one (.ptr 2 0 0)), (6, .one (.ptr 6 0 0)), (9, .one (.e (eQ (nmF ((sv b (a + 1) f).take j))))), (10, .one (.e (eB d))), (11, .v (.bool true)), (48, .one (.e (eI (j : Int)))), (900000, .one (.ptr 900000 0 0)), (900001, .one (.ptr 900001 0 0)), (900002, .one (.ptr 900002 0 0)), ((1000000 + 0), .one (.eptr fsE)), ((1000000 + 1), .one (.eptr acE))] [(900000, ⟨0, .box (.es [eI ((a + 1 + (j + 1) : Nat) : Int)]), 0⟩), (900001, ⟨0, .box (.es [eBytes b]), 0⟩), (900002, ⟨0, .box (.es [eB f]), 0⟩), (2, ⟨0, .box (.es (eVal val0)), 0⟩), (6, ⟨0, .box (.es (eVal ⟨2, 0, 0#64, []⟩)), 0⟩)]) (le_of (ad := []) (by refine ⟨?_, ?_, ?_, ?_, ?_, ?_, ?_, ?_, ?_, ?_, ?_, ?_, trivial⟩ <;> first | exact trivial | rfl | exact ⟨rfl, rfl⟩ | exact ⟨rfl, rfl, rfl⟩ | exact ⟨rfl, rfl, rfl, rfl⟩ | exact ⟨rfl, rfl, rfl, rfl, rfl⟩ | exact congrArg (fun z : Int => E.v (.int .i64 z)) (wrap64_id (by omega) (by omega)) | (refine ⟨rfl, ?_⟩; repeat' first | exact trivial | rfl | apply And.intro)) (memOk_box rfl rfl rfl (memOk_box rfl rfl rfl (memOk_box rfl rfl rfl (memOk_box rfl rfl rfl (memOk_box rfl rfl rfl trivial)))))) ?_
                repeat' (first | refine tr_seq ?_ | refine reg (T := tab) tOk hnt rfl ?_ ?_ | refine regD (T := tab) tOk mixedR hnt rfl (by decide +kernel) ?_ ?_ | refine tr_block ?_ | refine tr_skip ?_)
                · (dsimp only [AllP]; (repeat' first | exact trivial | assumption | exact Nat.le_of_ble_eq_true rfl | apply And.intro | decide | intro _ | exact rfl))
                repeat' (first | refine tr_seq ?_ | refine tr_block ?_ | refine tr_skip ?_)
                refine tr_cond rfl (fun hc => ?_) (fun hc => ?_)
                · first | exact absurd (show false = true from hc) Bool.false_ne_true | exact absurd (show true = false from hc).symm Bool.false_ne_true
                repeat' (first | refine tr_seq ?_ | refine reg (T := tab) tOk hnt rfl ?_ ?_ | refine regD (T := tab) tOk mixedR hnt rfl (by decide +kernel) ?_ ?_ | refine tr_block ?_ | refine tr_skip ?_)
                · (dsimp only [AllP]; (repeat' first | exact trivial | assumption | exact Nat.le_of_ble_eq_true rfl | apply And.intro | decide | intro _ | exact rfl))
                · (dsimp only [AllP]; (repeat' first | exact trivial | assumption | exact Nat.le_of_ble_eq_true rfl | apply And.intro | decide | intro _ | exact rfl))
                rw [hst]
                refine ⟨j + 1, ⟨hj8, by omega⟩, by omega, le_of (ad := []) (by refine ⟨?_, ?_, ?_, ?_, ?_, ?_, ?_, ?_, ?_, ?_, trivial⟩ <;> first | exact trivial | rfl | exact ⟨rfl, rfl⟩ | exact ⟨rfl, rfl, rfl⟩ | exact ⟨rfl, rfl, rfl, rfl⟩ | exact ⟨rfl, rfl, rfl, rfl, rfl⟩ | exact congrArg (fun z : Int => E.v (.int .i64 z)) (wrap64_id (by omega) (by omega)) | (refine ⟨rfl, ?_⟩; repeat' first | exact trivial | rfl | apply And.intro)) (memOk_box rfl rfl rfl (memOk_box rfl rfl rfl (memOk_box rfl rfl rfl (memOk_box rfl rfl rfl (memOk_box rfl rfl rfl trivial)))))⟩
              · have hn := nextEnd_fn (a + 1 + j) b f (by omega)
                rw [if_pos (by rw [sv_len]; omega), sv_len, show b.length - (a + 1) = j by omega] at hT
                repeat' (first | refine tr_seq ?_ | refine tr_block ?_ | refine tr_skip ?_)
                refine tr_region (lex (T := tab) tOk hnt rfl ?_ (callH (us := []) [(900000, 900000), (900001, 900001), (900002, 900002)] [] [] rfl rfl rfl rfl (hn) (by repeat' first | exact .nil | refine .lent rfl rfl rfl ?_ | refine .data rfl ?_) (fun _ => rfl) rfl rfl hnt rfl rfl (by repeat' first | exact trivial | rfl | apply And.intro) (by repeat' first | exact trivial | rfl | apply And.intro) (lex (T := tab) tOk hnt rfl ?_ (Lex.nil _)))) ?_
                · (dsimp only [AllP]; (repeat' first | exact trivial | assumption | exact Nat.le_of_ble_eq_true rfl | apply And.intro | exact eCells_len1 _ _ ‹_› | exact eCells_isByte _ _ ‹_› | (intro hh_; have hg_ := hh_; (try simp only [condT_ff, condF_tt, notE_t, notE_f, Bool.and_eq_true, ne_eq, decide_eq_true_eq, decide_eq_false_iff_not] at hg_)) | intro _ | exact rfl | omega))
                · (dsimp only [AllP]; (repeat' first | exact trivial | assumption | exact Nat.le_of_ble_eq_true rfl | apply And.intro | exact eCells_len1 _ _ ‹_› | exact eCells_isByte _ _ ‹_› | (intro hh_; have hg_ := hh_; (try simp only [condT_ff, condF_tt, notE_t, notE_f, Bool.and_eq_true, ne_eq, decide_eq_true_eq, decide_eq_false_iff_not] at hg_)) | intro _ | exact rfl | omega))
                refine tr_le (s' := St.of [(2, .one (.ptr 2 0 0)), (11, .v (.bool false)), (900000, .one (.ptr 900000 0 0)), (900001, .one (.ptr 900001 0 0)), (900002, .one (.ptr 900002 0 0))] [(900000, ⟨0, .box (.es [eI ((a + 1 + j : Nat) : Int)]), 0⟩), (900001, ⟨0, .box (.es [eBytes b]), 0⟩), (900002, ⟨0, .box (.es [eB f]), 0⟩), (2, ⟨0, .box (.es (eVal val0)), 0⟩)]) (le_of (ad := []) (by refine ⟨?_, ?_, ?_, ?_, ?_, trivial⟩ <;> first | exact trivial | rfl | exact ⟨rfl, rfl⟩ | exact ⟨rfl, rfl, rfl⟩ | exact ⟨rfl, rfl, rfl, rfl⟩ | exact ⟨rfl, rfl, rfl, rfl, rfl⟩ | exact congrArg (fun z : Int => E.v (.int .i64 z)) (wrap64_id (by omega) (by omega)) | (refine ⟨rfl, ?_⟩; repeat' first | exact trivial | rfl | apply And.intro)) (memOk_box rfl rfl rfl (memOk_box rfl rfl rfl (memOk_box rfl rfl rfl (memOk_box rfl rfl rfl trivial))))) ?_
                repeat' (first | refine tr_seq ?_ | refine reg (T := tab) tOk hnt rfl ?_ ?_ | refine regD (T := tab) tOk mixedR hnt rfl (by decide +kernel) ?_ ?_ | refine tr_block ?_ | refine tr_skip ?_)
                · (dsimp only [AllP]; (repeat' first | exact trivial | assumption | exact Nat.le_of_ble_eq_true rfl | apply And.intro | decide | intro _ | exact rfl))
                repeat' (first | refine tr_seq ?_ | refine tr_block ?_ | refine tr_skip ?_)
                refine tr_cond rfl (fun hc => ?_) (fun hc => ?_)
                · repeat' (first | refine tr_seq ?_ | refine reg (T := tab) tOk hnt rfl ?_ ?_ | refine regD (T := tab) tOk mixedR hnt rfl (by decide +kernel) ?_ ?_ | refine tr_block ?_ | refine tr_skip ?_)
                  · (dsimp only [AllP]; (repeat' first | exact trivial | assumption | exact Nat.le_of_ble_eq_true rfl | apply And.intro | decide | intro _ | exact rfl))
                  cases hT
                  refine tr_ret ⟨.inr rfl, _, _, _, rfl, by (repeat' first | exact trivial | exact Nat.le_of_ble_eq_true rfl | apply And.intro), rfl, fun X => le_of (ad := []) ⟨⟨⟨rfl, rfl⟩, ⟨rfl, rfl⟩, trivial⟩, ⟨rfl, rfl, rfl, rfl, rfl⟩, ⟨rfl, rfl, rfl, rfl, rfl⟩, ⟨rfl, rfl, rfl, rfl, rfl⟩, trivial⟩ (memOk_box rfl rfl (by first | rfl | (rw [Nat.add_assoc]; rfl)) (memOk_box rfl rfl rfl (memOk_box rfl rfl rfl trivial)))⟩
                first | exact absurd (show false = true from hc) Bool.false_ne_true | exact absurd (show true = false from hc).symm Bool.false_ne_true
            simp only [condT_tt, condT_ff, condF_tt, condF_ff, notE_t, notE_f, decide_eq_true_eq, decide_eq_false_iff_not] at hc
            have : j = 8 := by omega
            subst this
            rw [if_neg (by rw [sv_len]; omega)] at hT
            refine tr_exit ?_
            have hT : ckF ⟨2, viF (nmF ((sv b (a + 1) f).take 8)), 0#64, []⟩ 9 = (t1, t2, t3) := hT
            repeat' (first | refine tr_seq ?_ | refine reg (T := tab) tOk hnt rfl ?_ ?_ | refine regD (T := tab) tOk mixedR hnt rfl (by decide +kernel) ?_ ?_ | refine tr_block ?_ | refine tr_skip ?_)
            · (dsimp only [AllP]; (repeat' first | exact trivial | assumption | exact Nat.le_of_ble_eq_true rfl | apply And.intro | decide | intro _ | exact rfl))
            repeat' (first | refine tr_seq ?_ | refine tr_block ?_ | refine tr_skip ?_)
            refine tr_cond rfl (fun hc => ?_) (fun hc => ?_)
            · repeat' (first | refine tr_seq ?_ | refine tr_block ?_ | refine tr_skip ?_)
              first | refine reg (T := tab) tOk hnt rfl ?_ ?_ | refine regD (T := tab) tOk mixedR hnt rfl (by decide +kernel) ?_ ?_
              · (dsimp only [AllP]; (repeat' first | exact trivial | assumption | exact Nat.le_of_ble_eq_true rfl | apply And.intro | exact eCells_len1 _ _ ‹_› | exact eCells_isByte _ _ ‹_› | (intro hh_; have hg_ := hh_; (try simp only [condT_ff, condF_tt, notE_t, notE_f, Bool.and_eq_true, ne_eq, decide_eq_true_eq, decide_eq_false_iff_not] at hg_)) | intro _ | exact rfl | omega))
              repeat' (first | refine tr_seq ?_ | refine tr_block ?_ | refine tr_skip ?_)
              refine ⟨(⟨2, viF (nmF ((sv b (a + 1) f).take 8)), 0#64, []⟩, 9), hT, le_of (ad := []) (by refine ⟨?_, ?_, ?_, ?_, ?_, ?_, ?_, trivial⟩ <;> first | exact trivial | rfl | exact ⟨rfl, rfl⟩ | exact ⟨rfl, rfl, rfl⟩ | exact ⟨rfl, rfl, rfl, rfl⟩ | exact ⟨rfl, rfl, rfl, rfl, rfl⟩ | exact congrArg (fun z : Int => E.v (.int .i64 z)) (wrap64_id (by omega) (by omega)) | (refine ⟨rfl, ?_⟩; repeat' first | exact trivial | rfl | apply And.intro)) (memOk_box rfl rfl rfl (memOk_box rfl rfl rfl (memOk_box rfl rfl rfl (memOk_box rfl rfl rfl (memOk_box rfl rfl (congrArg (fun z : Int => eVal ⟨2, z, 0#64, []⟩) (vi_of _)) trivial)))))⟩
            first | exact absurd (show false = true from hc) Bool.false_ne_true | exact absurd (show true = false from hc).symm Bool.false_ne_true
          first | exact absurd (show false = true from hc) Bool.false_ne_true | exact absurd (show true = false from hc).symm Bool.false_ne_true
        first | exact absurd (show false = true from hc) Bool.false_ne_true | exact absurd (show true = false from hc).symm Bool.false_ne_true
      by_cases h4 : c = 4
      · rw [if_pos (.inr h4)] at hT
        subst h4
        rw [if_neg (show ¬ (4 : UInt8) = 3 by decide)] at hT
        repeat' (first | refine tr_seq ?_ | refine reg (T := tab) tOk hnt rfl ?_ ?_ | refine regD (T := tab) tOk mixedR hnt rfl (by decide +kernel) ?_ ?_ | refine tr_block ?_ | refine tr_skip ?_)
        · (dsimp only [AllP]; (repeat' first | exact trivial | assumption | exact Nat.le_of_ble_eq_true rfl | apply And.intro | decide | intro _ | exact rfl))
        repeat' (first | refine tr_seq ?_ | refine tr_block ?_ | refine tr_skip ?_)
        refine tr_cond rfl (fun hc => ?_) (fun hc => ?_)
        · first | exact absurd (show false = true from hc) Bool.false_ne_true | exact absurd (show true = false from hc).symm Bool.false_ne_true
        repeat' (first | refine tr_seq ?_ | refine reg (T := tab) tOk hnt rfl ?_ ?_ | refine regD (T := tab) tOk mixedR hnt rfl (by decide +kernel) ?_ ?_ | refine tr_block ?_ | refine tr_skip ?_)
        · (dsimp only [AllP]; (repeat' first | exact trivial | assumption | exact Nat.le_of_ble_eq_true rfl | apply And.intro | decide | intro _ | exact rfl))
        repeat' (first | refine tr_seq ?_ | refine tr_block ?_ | refine tr_skip ?_)
        refine tr_cond rfl (fun hc => ?_) (fun hc => ?_)
        · repeat' (first | refine tr_seq ?_ | refine reg (T := tab) tOk hnt rfl ?_ ?_ | refine regD (T := tab) tOk mixedR hnt rfl (by decide +kernel) ?_ ?_ | refine tr_block ?_ | refine tr_skip ?_)
          · (dsimp only [AllP]; (repeat' first | exact trivial | assumption | exact Nat.le_of_ble_eq_true rfl | apply And.intro | decide | intro _ | exact rfl))
          · (dsimp only [AllP]; (repeat' first | exact trivial | assumption | exact Nat.le_of_ble_eq_true rfl | apply And.intro | decide | intro _ | exact rfl))
          repeat' (first | refine tr_seq ?_ | refine tr_block ?_ | refine tr_skip ?_)
          refine tr_loop (σ := Nat) (fun j => St.of [(0, clN), (2, .one (.ptr 2 0 0)), (6, .one (.ptr 6 0 0)), (9, .one (.e (eQ (nmF ((sv b (a + 1) f).take j))))), (48, .one (.e (eI (j : Int)))), (900000, .one (.ptr 900000 0 0)), (900001, .one (.ptr 900001 0 0)), (900002, .one (.ptr 900002 0 0)), ((1000000 + 0), .one (.eptr fsE)), ((1000000 + 1), .one (.eptr acE))] [(900000, ⟨0, .box (.es [eI ((a + 1 + j : Nat) : Int)]), 0⟩), (900001, ⟨0, .box (.es [eBytes b]), 0⟩), (900002, ⟨0, .box (.es [eB f]), 0⟩), (2, ⟨0, .box (.es (eVal val0)), 0⟩), (6, ⟨0, .box (.es (eVal ⟨3, 0, 0#64, []⟩)), 0⟩)]) (fun j => j ≤ 8 ∧ a + 1 + j ≤ b.length) (fun j => 8 - j) (0) (le_of (ad := []) (by refine ⟨?_, ?_, ?_, ?_, ?_, ?_, ?_, ?_, ?_, ?_, trivial⟩ <;> first | exact trivial | rfl | exact ⟨rfl, rfl⟩ | exact ⟨rfl, rfl, rfl⟩ | exact ⟨rfl, rfl, rfl, rfl⟩ | exact ⟨rfl, rfl, rfl, rfl, rfl⟩ | exact congrArg (fun z : Int => E.v (.int .i64 z)) (wrap64_id (by omega) (by omega)) | (refine ⟨rfl, ?_⟩; repeat' first | exact trivial | rfl | apply And.intro)) (memOk_box rfl rfl rfl (memOk_box rfl rfl rfl (memOk_box rfl rfl rfl (memOk_box rfl rfl rfl (memOk_box rfl rfl rfl trivial)))))) ⟨Nat.zero_le _, by omega⟩ ?_
          rintro j ⟨j8, jl⟩
          repeat' (first | refine tr_seq ?_ | refine reg (T := tab) tOk hnt rfl ?_ ?_ | refine regD (T := tab) tOk mixedR hnt rfl (by decide +kernel) ?_ ?_ | refine tr_block ?_ | refine tr_skip ?_)
          · (dsimp only [AllP]; (repeat' first | exact trivial | assumption | exact Nat.le_of_ble_eq_true rfl | apply And.intro | decide | intro _ | exact rfl))
          repeat' (first | refine tr_seq ?_ | refine tr_block ?_ | refine tr_skip ?_)
          refine tr_cond rfl (fun hc => ?_) (fun hc => ?_)
          · simp only [condT_tt, condT_ff, condF_tt, condF_ff, notE_t, notE_f, decide_eq_true_eq, decide_eq_false_iff_not] at hc
            have hj8 : j < 8 := by omega
            by_cases hj : a + 1 + j < b.length
            · have hn := nextGo_fn (a + 1 + j) b f hj hb
              have hst := nm_step (sv b (a + 1) f) j (by rw [sv_len]; omega)
              rw [sv_get (by omega)] at hst
              generalize b.getD (a + 1 + j) 0 ^^^ f = d at *
              repeat' (first | refine tr_seq ?_ | refine tr_block ?_ | refine tr_skip ?_)
              refine tr_region (lex (T := tab) tOk hnt rfl ?_ (callH (us := []) [(900000, 900000), (900001, 900001), (900002, 900002)] [] [] rfl rfl rfl rfl (hn) (by repeat' first | exact .nil | refine .lent rfl rfl rfl ?_ | refine .data rfl ?_) (fun _ => rfl) rfl rfl hnt rfl rfl (by repeat' first | exact trivial | rfl | apply And.intro) (by repeat' first | exact trivial | rfl | apply And.intro) (lex (T := tab) tOk hnt rfl ?_ (Lex.nil _)))) ?_
              · (dsimp only [AllP]; (repeat' first | exact trivial | assumption | exact Nat.le_of_ble_eq_true rfl | apply And.intro | exact eCells_len1 _ _ ‹_› | exact eCells_isByte _ _ ‹_› | (intro hh_; have hg_ := hh_; (try simp only [condT_ff, condF_tt, notE_t, notE_f, Bool.and_eq_true, ne_eq, decide_eq_true_eq, decide_eq_false_iff_not] at hg_)) | intro _ | exact rfl | omega))
              · (dsimp only [AllP]; (repeat' first | exact trivial | assumption | exact Nat.le_of_ble_eq_true rfl | apply And.intro | exact eCells_len1 _ _ ‹_› | exact eCells_isByte _ _ ‹_› | (intro hh_; have hg_ := hh_; (try simp only [condT_ff, condF_tt, notE_t, notE_f, Bool.and_eq_true, ne_eq, decide_eq_true_eq, decide_eq_false_iff_not] at hg_)) | intro _ | exact rfl | omega))
              refine tr_le (s' := St.of [(0, clN), (2, .one (.ptr 2 0 0)), (6, .one (.ptr 6 0 0)), (9, .one (.e (eQ (nmF ((sv b (a + 1) f).take j))))), (10, .one (.e (eB d))), (11, .v (.bool true)), (48, .one (.e (eI (j : Int)))), (900000, .one (.ptr 900000 0 0)), (900001, .one (.ptr 900001 0 0)), (900002, .one (.ptr 900002 0 0)), ((1000000 + 0), .one (.eptr fsE)), ((1000000 + 1), .one (.eptr acE))] [(900000, ⟨0, .box (.es [eI ((a + 1 + (j + 1) : Nat) : Int)]), 0⟩), (900001, ⟨0, .box (.es [eBytes b]), 0⟩), (900002, ⟨0, .box (.es [eB f]), 0⟩), (2, ⟨0, .box (.es (eVal val0)), 0⟩), (6, ⟨0, .box (.es (eVal ⟨3, 0, 0#64, []⟩)), 0⟩)]) (le_of (ad := []) (by refine ⟨?_, ?_, ?_, ?_, ?_, ?_, ?_, ?_, ?_, ?_, ?_, ?_, trivial⟩ <;> first | exact trivial | rfl | exact ⟨rfl, rfl⟩ | exact ⟨rfl, rfl, rfl⟩ | exact ⟨rfl, rfl, rfl, rfl⟩ | exact ⟨rfl, rfl, rfl, rfl, rfl⟩ | exact congrArg (fun z : Int => E.v (.int .i64 z)) (wrap64_id (by omega) (by omega)) | (refine ⟨rfl, ?_⟩; repeat' first | exact trivial | rfl | apply And.intro)) (memOk_box rfl rfl rfl (memOk_box rfl rfl rfl (memOk_box rfl rfl rfl (memOk_box rfl rfl rfl (memOk_box rfl rfl rfl trivial)))))) ?_
              repeat' (first | refine tr_seq ?_ | refine reg (T := tab) tOk hnt rfl ?_ ?_ | refine regD (T := tab) tOk mixedR hnt rfl (by decide +kernel) ?_ ?_ | refine tr_block ?_ | refine tr_skip ?_)
              · (dsimp only [AllP]; (repeat' first | exact trivial | assumption | exact Nat.le_of_ble_eq_true rfl | apply And.intro | decide | intro _ | exact rfl))
              repeat' (first | refine tr_seq ?_ | refine tr_block ?_ | refine tr_skip ?_)
              refine tr_cond rfl (fun hc => ?_) (fun hc => ?_)
              · first | exact absurd (show false = true from hc) Bool.false_ne_true | exact absurd (show true = false from hc).symm Bool.false_ne_true
              repeat' (first | refine tr_seq ?_ | refine reg (T := tab) tOk hnt rfl ?_ ?_ | refine regD (T := tab) tOk mixedR hnt rfl (by decide +kernel) ?_ ?_ | refine tr_block ?_ | refine tr_skip ?_)
              · (dsimp only [AllP]; (repeat' first | exact trivial | assumption | exact Nat.le_of_ble_eq_true rfl | apply And.intro | decide | intro _ | exact rfl))
              · (dsimp only [AllP]; (repeat' first | exact trivial | assumption | exact Nat.le_of_ble_eq_true rfl | apply And.intro | decide | intro _ | exact rfl))
              rw [hst]
              refine ⟨j + 1, ⟨hj8, by omega⟩, by omega, le_of (ad := []) (by refine ⟨?_, ?_, ?_, ?_, ?_, ?_, ?_, ?_, ?_, ?_, trivial⟩ <;> first | exact trivial | rfl | exact ⟨rfl, rfl⟩ | exact ⟨rfl, rfl, rfl⟩ | exact ⟨rfl, rfl, rfl, rfl⟩ | exact ⟨rfl, rfl, rfl, rfl, rfl⟩ | exact congrArg (fun z : Int => E.v (.int .i64 z)) (wrap64_id (by omega) (by omega)) | (refine ⟨rfl, ?_⟩; repeat' first | exact trivial | rfl | apply And.intro)) (memOk_box rfl rfl rfl (memOk_box rfl rfl rfl (memOk_box rfl rfl rfl (memOk_box rfl rfl rfl (memOk_box rfl rfl rfl trivial)))))⟩
            · have hn := nextEnd_fn (a + 1 + j) b f (by omega)
              rw [if_pos (by rw [sv_len]; omega), sv_len, show b.length - (a + 1) = j by omega] at hT
              repeat' (first | refine tr_seq ?_ | refine tr_block ?_ | refine tr_skip ?_)
              refine tr_region (lex (T := tab) tOk hnt rfl ?_ (callH (us := []) [(900000, 900000), (900001, 900001), (900002, 900002)] [] [] rfl rfl rfl rfl (hn) (by repeat' first | exact .nil | refine .lent rfl rfl rfl ?_ | refine .data rfl ?_) (fun _ => rfl) rfl rfl hnt rfl rfl (by repeat' first | exact trivial | rfl | apply And.intro) (by repeat' first | exact trivial | rfl | apply And.intro) (lex (T := tab) tOk hnt rfl ?_ (Lex.nil _)))) ?_
              · (dsimp only [AllP]; (repeat' first | exact trivial | assumption | exact Nat.le_of_ble_eq_true rfl | apply And.intro | exact eCells_len1 _ _ ‹_› | exact eCells_isByte _ _ ‹_› | (intro hh_; have hg_ := hh_; (try simp only [condT_ff, condF_tt, notE_t, notE_f, Bool.and_eq_true, ne_eq, decide_eq_true_eq, decide_eq_false_iff_not] at hg_)) | intro _ | exact rfl | omega))
              · (dsimp only [AllP]; (repeat' first | exact trivial | assumption | exact Nat.le_of_ble_eq_true rfl | apply And.intro | exact eCells_len1 _ _ ‹_› | exact eCells_isByte _ _ ‹_› | (intro hh_; have hg_ := hh_; (try simp only [condT_ff, condF_tt, notE_t, notE_f, Bool.and_eq_true, ne_eq, decide_eq_true_eq, decide_eq_false_iff_not] at hg_)) | intro _ | exact rfl | omega))
              refine tr_le (s' := St.of [(2, .one (.ptr 2 0 0)), (11, .v (.bool false)), (900000, .one (.ptr 900000 0 0)), (900001, .one (.ptr 900001 0 0)), (900002, .one (.ptr 900002 0 0))] [(900000, ⟨0, .box (.es [eI ((a + 1 + j : Nat) : Int)]), 0⟩), (900001, ⟨0, .box (.es [eBytes b]), 0⟩), (900002, ⟨0, .box (.es [eB f]), 0⟩), (2, ⟨0, .box (.es (eVal val0)), 0⟩)]) (le_of (ad := []) (by refine ⟨?_, ?_, ?_, ?_, ?_, trivial⟩ <;> first | exact trivial | rfl | exact ⟨rfl, rfl⟩ | exact ⟨rfl, rfl, rfl⟩ | exact ⟨rfl, rfl, rfl, rfl⟩ | exact ⟨rfl, rfl, rfl, rfl, rfl⟩ | exact congrArg (fun z : Int => E.v (.int .i64 z)) (wrap64_id (by omega) (by omega)) | (refine ⟨rfl, ?_⟩; repeat' first | exact trivial | rfl | apply And.intro)) (memOk_box rfl rfl rfl (memOk_box rfl rfl rfl (memOk_box rfl rfl rfl (memOk_box rfl rfl rfl trivial))))) ?_
              repeat' (first | refine tr_seq ?_ | refine reg (T := tab) tOk hnt rfl ?_ ?_ | refine regD (T := tab) tOk mixedR hnt rfl (by decide +kernel) ?_ ?_ | refine tr_block ?_ | refine tr_skip ?_)
              · (dsimp only [AllP]; (repeat' first | exact trivial | assumption | exact Nat.le_of_ble_eq_true rfl | apply And.intro | decide | intro _ | exact rfl))
              repeat' (first | refine tr_seq ?_ | refine tr_block ?_ | refine tr_skip ?_)
              refine tr_cond rfl (fun hc => ?_) (fun hc => ?_)
              · repeat' (first | refine tr_seq ?_ | refine reg (T := tab) tOk hnt rfl ?_ ?_ | refine regD (T := tab) tOk mixedR hnt rfl (by decide +kernel) ?_ ?_ | refine tr_block ?_ | refine tr_skip ?_)
                · (dsimp only [AllP]; (repeat' first | exact trivial | assumption | exact Nat.le_of_ble_eq_true rfl | apply And.intro | decide | intro _ | exact rfl))
                cases hT
                refine tr_ret ⟨.inr rfl, _, _, _, rfl, by (repeat' first | exact trivial | exact Nat.le_of_ble_eq_true rfl | apply And.intro), rfl, fun X => le_of (ad := []) ⟨⟨⟨rfl, rfl⟩, ⟨rfl, rfl⟩, trivial⟩, ⟨rfl, rfl, rfl, rfl, rfl⟩, ⟨rfl, rfl, rfl, rfl, rfl⟩, ⟨rfl, rfl, rfl, rfl, rfl⟩, trivial⟩ (memOk_box rfl rfl (by first | rfl | (rw [Nat.add_assoc]; rfl)) (memOk_box rfl rfl rfl (memOk_box rfl rfl rfl trivial)))⟩
              first | exact absurd (show false = true from hc) Bool.false_ne_true | exact absurd (show true = false from hc).symm Bool.false_ne_true
          simp only [condT_tt, condT_ff, condF_tt, condF_ff, notE_t, notE_f, decide_eq_true_eq, decide_eq_false_iff_not] at hc
          have : j = 8 := by omega
          subst this
          rw [if_neg (by rw [sv_len]; omega)] at hT
          refine tr_exit ?_
          have hT : ckF ⟨3, 0, bkF (nmF ((sv b (a + 1) f).take 8)), []⟩ 9 = (t1, t2, t3) := hT
          have h5 := back_fn (nmF ((sv b (a + 1) f).take 8))
          repeat' (first | refine tr_seq ?_ | refine reg (T := tab) tOk hnt rfl ?_ ?_ | refine regD (T := tab) tOk mixedR hnt rfl (by decide +kernel) ?_ ?_ | refine tr_block ?_ | refine tr_skip ?_)
          · (dsimp only [AllP]; (repeat' first | exact trivial | assumption | exact Nat.le_of_ble_eq_true rfl | apply And.intro | decide | intro _ | exact rfl))
          repeat' (first | refine tr_seq ?_ | refine tr_block ?_ | refine tr_skip ?_)
          refine tr_cond rfl (fun hc => ?_) (fun hc => ?_)
          · first | exact absurd (show false = true from hc) Bool.false_ne_true | exact absurd (show true = false from hc).symm Bool.false_ne_true
          repeat' (first | refine tr_seq ?_ | refine tr_block ?_ | refine tr_skip ?_)
          refine tr_region (lex (T := tab) tOk hnt rfl ?_ (call rfl rfl rfl rfl rfl rfl rfl hnt (h5) (lex (T := tab) tOk hnt rfl ?_ (Lex.nil _)))) ?_
          · (dsimp only [AllP]; (repeat' first | exact trivial | assumption | exact Nat.le_of_ble_eq_true rfl | apply And.intro | exact eCells_len1 _ _ ‹_› | exact eCells_isByte _ _ ‹_› | (intro hh_; have hg_ := hh_; (try simp only [condT_ff, condF_tt, notE_t, notE_f, Bool.and_eq_true, ne_eq, decide_eq_true_eq, decide_eq_false_iff_not] at hg_)) | intro _ | exact rfl | omega))
          · (dsimp only [AllP]; (repeat' first | exact trivial | assumption | exact Nat.le_of_ble_eq_true rfl | apply And.intro | exact eCells_len1 _ _ ‹_› | exact eCells_isByte _ _ ‹_› | (intro hh_; have hg_ := hh_; (try simp only [condT_ff, condF_tt, notE_t, notE_f, Bool.and_eq_true, ne_eq, decide_eq_true_eq, decide_eq_false_iff_not] at hg_)) | intro _ | exact rfl | omega))
          repeat' (first | refine tr_seq ?_ | refine tr_block ?_ | refine tr_skip ?_)
          refine ⟨(⟨3, 0, bkF (nmF ((sv b (a + 1) f).take 8)), []⟩, 9), hT, le_of (ad := []) (by refine ⟨?_, ?_, ?_, ?_, ?_, ?_, ?_, trivial⟩ <;> first | exact trivial | rfl | exact ⟨rfl, rfl⟩ | exact ⟨rfl, rfl, rfl⟩ | exact ⟨rfl, rfl, rfl, rfl⟩ | exact ⟨rfl, rfl, rfl, rfl, rfl⟩ | exact congrArg (fun z : Int => E.v (.int .i64 z)) (wrap64_id (by omega) (by omega)) | (refine ⟨rfl, ?_⟩; repeat' first | exact trivial | rfl | apply And.intro)) (memOk_box rfl rfl rfl (memOk_box rfl rfl rfl (memOk_box rfl rfl rfl (memOk_box rfl rfl rfl (memOk_box rfl rfl rfl trivial)))))⟩
        first | exact absurd (show false = true from hc) Bool.false_ne_true | exact absurd (show true = false from hc).symm Bool.false_ne_true
      rw [if_neg (by rintro (e | e); exact h3 e; exact h4 e)] at hT
      repeat' (first | refine tr_seq ?_ | refine reg (T := tab) tOk hnt rfl ?_ ?_ | refine regD (T := tab) tOk mixedR hnt rfl (by decide +kernel) ?_ ?_ | refine tr_block ?_ | refine tr_skip ?_)
      · (dsimp only [AllP]; (repeat' first | exact trivial | assumption | exact Nat.le_of_ble_eq_true rfl | apply And.intro | decide | intro _ | exact rfl))
      repeat' (first | refine tr_seq ?_ | refine tr_block ?_ | refine tr_skip ?_)
      refine tr_cond rfl (fun hc => ?_) (fun hc => ?_)
      · have hc := of_decide_eq_true hc
        exact absurd (inj8 (n := 2) hc (by decide)) h3
      repeat' (first | refine tr_seq ?_ | refine reg (T := tab) tOk hnt rfl ?_ ?_ | refine regD (T := tab) tOk mixedR hnt rfl (by decide +kernel) ?_ ?_ | refine tr_block ?_ | refine tr_skip ?_)
      · (dsimp only [AllP]; (repeat' first | exact trivial | assumption | exact Nat.le_of_ble_eq_true rfl | apply And.intro | decide | intro _ | exact rfl))
      repeat' (first | refine tr_seq ?_ | refine tr_block ?_ | refine tr_skip ?_)
      refine tr_cond rfl (fun hc => ?_) (fun hc => ?_)
      · have hc := of_decide_eq_true hc
        exact absurd (inj8 (n := 3) hc (by decide)) h4
      repeat' (first | refine tr_seq ?_ | refine reg (T := tab) tOk hnt rfl ?_ ?_ | refine regD (T := tab) tOk mixedR hnt rfl (by decide +kernel) ?_ ?_ | refine tr_block ?_ | refine tr_skip ?_)
      · (dsimp only [AllP]; (repeat' first | exact trivial | assumption | exact Nat.le_of_ble_eq_true rfl | apply And.intro | decide | intro _ | exact rfl))
      repeat' (first | refine tr_seq ?_ | refine tr_block ?_ | refine tr_skip ?_)
      refine tr_cond rfl (fun hc => ?_) (fun hc => ?_)
      · have hc := of_decide_eq_true hc
        have hc5 : c = 5 := inj8 (n := 4) hc (by decide)
        rw [if_pos hc5] at hT
        subst hc5
        have hx := text_fn (a + 1) b f (by omega) hb hV
        generalize txF [] (sv b (a + 1) f) = q at *
        obtain ⟨x1, x2, x3⟩ := q
        dsimp only at hT
        repeat' (first | refine tr_seq ?_ | refine tr_block ?_ | refine tr_skip ?_)
        refine tr_region (lex (T := tab) tOk hnt rfl ?_ (callH (us := []) [(900000, 900000), (900001, 900001), (900002, 900002)] [] [] rfl rfl rfl rfl (hx) (by repeat' first | exact .nil | refine .lent rfl rfl rfl ?_ | refine .data rfl ?_) (fun _ => rfl) rfl rfl hnt rfl rfl (by repeat' first | exact trivial | rfl | apply And.intro) (by repeat' first | exact trivial | rfl | apply And.intro) (lex (T := tab) tOk hnt rfl ?_ (Lex.nil _)))) ?_
        · (dsimp only [AllP]; (repeat' first | exact trivial | assumption | exact Nat.le_of_ble_eq_true rfl | apply And.intro | exact eCells_len1 _ _ ‹_› | exact eCells_isByte _ _ ‹_› | (intro hh_; have hg_ := hh_; (try simp only [condT_ff, condF_tt, notE_t, notE_f, Bool.and_eq_true, ne_eq, decide_eq_true_eq, decide_eq_false_iff_not] at hg_)) | intro _ | exact rfl | omega))
        · (dsimp only [AllP]; (repeat' first | exact trivial | assumption | exact Nat.le_of_ble_eq_true rfl | apply And.intro | exact eCells_len1 _ _ ‹_› | exact eCells_isByte _ _ ‹_› | (intro hh_; have hg_ := hh_; (try simp only [condT_ff, condF_tt, notE_t, notE_f, Bool.and_eq_true, ne_eq, decide_eq_true_eq, decide_eq_false_iff_not] at hg_)) | intro _ | exact rfl | omega))
        refine tr_le (s' := St.of [(2, .one (.ptr 2 0 0)), (6, .one (.ptr 6 0 0)), (12, .one (.e (eT x1))), (13, .one (.e (eI x2))), (900000, .one (.ptr 900000 0 0)), (900001, .one (.ptr 900001 0 0)), (900002, .one (.ptr 900002 0 0)), ((1000000 + 0), .one (.eptr fsE)), ((1000000 + 1), .one (.eptr acE))] [(900000, ⟨0, .box (.es [eI ((a + 1 + x3 : Nat) : Int)]), 0⟩), (900001, ⟨0, .box (.es [eBytes b]), 0⟩), (900002, ⟨0, .box (.es [eB f]), 0⟩), (2, ⟨0, .box (.es (eVal val0)), 0⟩), (6, ⟨0, .box (.es (eVal ⟨4, 0, 0#64, []⟩)), 0⟩)]) (le_of (ad := []) (by refine ⟨?_, ?_, ?_, ?_, ?_, ?_, ?_, ?_, ?_, trivial⟩ <;> first | exact trivial | rfl | exact ⟨rfl, rfl⟩ | exact ⟨rfl, rfl, rfl⟩ | exact ⟨rfl, rfl, rfl, rfl⟩ | exact ⟨rfl, rfl, rfl, rfl, rfl⟩ | exact congrArg (fun z : Int => E.v (.int .i64 z)) (wrap64_id (by omega) (by omega)) | (refine ⟨rfl, ?_⟩; repeat' first | exact trivial | rfl | apply And.intro)) (memOk_box rfl rfl rfl (memOk_box rfl rfl rfl (memOk_box rfl rfl rfl (memOk_box rfl rfl rfl (memOk_box rfl rfl rfl trivial)))))) ?_
        repeat' (first | refine tr_seq ?_ | refine reg (T := tab) tOk hnt rfl ?_ ?_ | refine regD (T := tab) tOk mixedR hnt rfl (by decide +kernel) ?_ ?_ | refine tr_block ?_ | refine tr_skip ?_)
        · (dsimp only [AllP]; (repeat' first | exact trivial | assumption | exact Nat.le_of_ble_eq_true rfl | apply And.intro | decide | intro _ | exact rfl))
        repeat' (first | refine tr_seq ?_ | refine tr_block ?_ | refine tr_skip ?_)
        refine tr_cond rfl (fun hc => ?_) (fun hc => ?_)
        · have hc : (!decide (x2 = 0)) = true := hc
          simp only [condT_tt, condT_ff, condF_tt, condF_ff, notE_t, notE_f, decide_eq_true_eq, decide_eq_false_iff_not] at hc
          rw [if_pos hc] at hT
          repeat' (first | refine tr_seq ?_ | refine reg (T := tab) tOk hnt rfl ?_ ?_ | refine regD (T := tab) tOk mixedR hnt rfl (by decide +kernel) ?_ ?_ | refine tr_block ?_ | refine tr_skip ?_)
          · (dsimp only [AllP]; (repeat' first | exact trivial | assumption | exact Nat.le_of_ble_eq_true rfl | apply And.intro | decide | intro _ | exact rfl))
          cases hT
          refine tr_ret ⟨.inr rfl, _, _, _, rfl, by (repeat' first | exact trivial | exact Nat.le_of_ble_eq_true rfl | apply And.intro), rfl, fun X => le_of (ad := []) ⟨⟨⟨rfl, rfl⟩, ⟨rfl, rfl⟩, trivial⟩, ⟨rfl, rfl, rfl, rfl, rfl⟩, ⟨rfl, rfl, rfl, rfl, rfl⟩, ⟨rfl, rfl, rfl, rfl, rfl⟩, trivial⟩ (memOk_box rfl rfl (by first | rfl | (rw [Nat.add_assoc]; rfl)) (memOk_box rfl rfl rfl (memOk_box rfl rfl rfl trivial)))⟩
        have hc : (!decide (x2 = 0)) = false := hc
        simp only [condT_tt, condT_ff, condF_tt, condF_ff, notE_t, notE_f, decide_eq_true_eq, decide_eq_false_iff_not] at hc
        rw [if_neg (not_not_intro hc)] at hT
        repeat' (first | refine tr_seq ?_ | refine tr_block ?_ | refine tr_skip ?_)
        first | refine reg (T := tab) tOk hnt rfl ?_ ?_ | refine regD (T := tab) tOk mixedR hnt rfl (by decide +kernel) ?_ ?_
        · (dsimp only [AllP]; (repeat' first | exact trivial | assumption | exact Nat.le_of_ble_eq_true rfl | apply And.intro | exact eCells_len1 _ _ ‹_› | exact eCells_isByte _ _ ‹_› | (intro hh_; have hg_ := hh_; (try simp only [condT_ff, condF_tt, notE_t, notE_f, Bool.and_eq_true, ne_eq, decide_eq_true_eq, decide_eq_false_iff_not] at hg_)) | intro _ | exact rfl | omega))
        repeat' (first | refine tr_seq ?_ | refine tr_block ?_ | refine tr_skip ?_)
        refine ⟨(⟨4, 0, 0#64, x1⟩, 1 + x3), hT, le_of (ad := []) (by refine ⟨?_, ?_, ?_, ?_, ?_, ?_, ?_, trivial⟩ <;> first | exact trivial | rfl | exact ⟨rfl, rfl⟩ | exact ⟨rfl, rfl, rfl⟩ | exact ⟨rfl, rfl, rfl, rfl⟩ | exact ⟨rfl, rfl, rfl, rfl, rfl⟩ | exact congrArg (fun z : Int => E.v (.int .i64 z)) (wrap64_id (by omega) (by omega)) | (refine ⟨rfl, ?_⟩; repeat' first | exact trivial | rfl | apply And.intro)) (memOk_box rfl rfl (by rw [← Nat.add_assoc]; rfl) (memOk_box rfl rfl rfl (memOk_box rfl rfl rfl (memOk_box rfl rfl rfl (memOk_box rfl rfl rfl trivial)))))⟩
      have hc := of_decide_eq_false hc
      have hc5 : ¬ c = 5 := fun e => hc (by rw [e]; rfl)
      rw [if_neg hc5] at hT
      repeat' (first | refine tr_seq ?_ | refine reg (T := tab) tOk hnt rfl ?_ ?_ | refine regD (T := tab) tOk mixedR hnt rfl (by decide +kernel) ?_ ?_ | refine tr_block ?_ | refine tr_skip ?_)
      · (dsimp only [AllP]; (repeat' first | exact trivial | assumption | exact Nat.le_of_ble_eq_true rfl | apply And.intro | decide | intro _ | exact rfl))
      cases hT
      refine tr_ret ⟨.inr rfl, _, _, _, rfl, by (repeat' first | exact trivial | exact Nat.le_of_ble_eq_true rfl | apply And.intro), rfl, fun X => le_of (ad := []) ⟨⟨⟨rfl, rfl⟩, ⟨rfl, rfl⟩, trivial⟩, ⟨rfl, rfl, rfl, rfl, rfl⟩, ⟨rfl, rfl, rfl, rfl, rfl⟩, ⟨rfl, rfl, rfl, rfl, rfl⟩, trivial⟩ (memOk_box rfl rfl (by first | rfl | (rw [Nat.add_assoc]; rfl)) (memOk_box rfl rfl rfl (memOk_box rfl rfl rfl trivial)))⟩
    rintro ⟨v, k⟩ hJ
    dsimp only at hJ
    have h3 := check_fn v
    repeat' (first | refine tr_seq ?_ | refine tr_block ?_ | refine tr_skip ?_)
    refine tr_region (lex (T := tab) tOk hnt rfl ?_ (callV rfl rfl rfl rfl rfl rfl rfl hnt rfl (h3) (lex (T := tab) tOk hnt rfl ?_ (Lex.nil _)))) ?_
    · (dsimp only [AllP]; (repeat' first | exact trivial | assumption | exact Nat.le_of_ble_eq_true rfl | apply And.intro | exact eCells_len1 _ _ ‹_› | exact eCells_isByte _ _ ‹_› | (intro hh_; have hg_ := hh_; (try simp only [condT_ff, condF_tt, notE_t, notE_f, Bool.and_eq_true, ne_eq, decide_eq_true_eq, decide_eq_false_iff_not] at hg_)) | intro _ | exact rfl | omega))
    · (dsimp only [AllP]; (repeat' first | exact trivial | assumption | exact Nat.le_of_ble_eq_true rfl | apply And.intro | exact eCells_len1 _ _ ‹_› | exact eCells_isByte _ _ ‹_› | (intro hh_; have hg_ := hh_; (try simp only [condT_ff, condF_tt, notE_t, notE_f, Bool.and_eq_true, ne_eq, decide_eq_true_eq, decide_eq_false_iff_not] at hg_)) | intro _ | exact rfl | omega))
    unfold ckF at hJ
    repeat' (first | refine tr_seq ?_ | refine tr_block ?_ | refine tr_skip ?_)
    refine tr_cond rfl (fun hc => ?_) (fun hc => ?_)
    · have hc : (!decide (chk v = 0)) = true := hc
      simp only [condT_tt, condT_ff, condF_tt, condF_ff, notE_t, notE_f, decide_eq_true_eq, decide_eq_false_iff_not] at hc
      rw [if_pos hc] at hJ
      repeat' (first | refine tr_seq ?_ | refine reg (T := tab) tOk hnt rfl ?_ ?_ | refine regD (T := tab) tOk mixedR hnt rfl (by decide +kernel) ?_ ?_ | refine tr_block ?_ | refine tr_skip ?_)
      · (dsimp only [AllP]; (repeat' first | exact trivial | assumption | exact Nat.le_of_ble_eq_true rfl | apply And.intro | decide | intro _ | exact rfl))
      cases hJ
      refine tr_ret ⟨.inr rfl, _, _, _, rfl, by (repeat' first | exact trivial | exact Nat.le_of_ble_eq_true rfl | apply And.intro), rfl, fun X => le_of (ad := []) ⟨⟨⟨rfl, rfl⟩, ⟨rfl, rfl⟩, trivial⟩, ⟨rfl, rfl, rfl, rfl, rfl⟩, ⟨rfl, rfl, rfl, rfl, rfl⟩, ⟨rfl, rfl, rfl, rfl, rfl⟩, trivial⟩ (memOk_box rfl rfl (by first | rfl | (rw [Nat.add_assoc]; rfl)) (memOk_box rfl rfl rfl (memOk_box rfl rfl rfl trivial)))⟩
    have hc : (!decide (chk v = 0)) = false := hc
    simp only [condT_tt, condT_ff, condF_tt, condF_ff, notE_t, notE_f, decide_eq_true_eq, decide_eq_false_iff_not] at hc
    rw [if_neg (not_not_intro hc)] at hJ
    repeat' (first | refine tr_seq ?_ | refine reg (T := tab) tOk hnt rfl ?_ ?_ | refine regD (T := tab) tOk mixedR hnt rfl (by decide +kernel) ?_ ?_ | refine tr_block ?_ | refine tr_skip ?_)
    · (dsimp only [AllP]; (repeat' first | exact trivial | assumption | exact Nat.le_of_ble_eq_true rfl | apply And.intro | decide | intro _ | exact rfl))
    cases hJ
    refine tr_ret ⟨.inr rfl, _, _, _, rfl, by (repeat' first | exact trivial | exact Nat.le_of_ble_eq_true rfl | apply And.intro), rfl, fun X => le_of (ad := []) ⟨⟨⟨rfl, rfl⟩, ⟨rfl, rfl⟩, trivial⟩, ⟨rfl, rfl, rfl, rfl, rfl⟩, ⟨rfl, rfl, rfl, rfl, rfl⟩, ⟨rfl, rfl, rfl, rfl, rfl⟩, trivial⟩ (memOk_box rfl rfl (by first | rfl | (rw [Nat.add_assoc]; rfl)) (memOk_box rfl rfl rfl (memOk_box rfl rfl rfl trivial)))⟩
  · have hn := nextEnd_fn a b f (by omega)
    rw [sv_nil (by omega), rdF] at hT
    repeat' (first | refine tr_seq ?_ | refine tr_block ?_ | refine tr_skip ?_)
    refine tr_region (lex (T := tab) tOk hnt rfl ?_ (callH (us := []) [(900000, 900000), (900001, 900001), (900002, 900002)] [] [] rfl rfl rfl rfl (hn) (by repeat' first | exact .nil | refine .lent rfl rfl rfl ?_ | refine .data rfl ?_) (fun _ => rfl) rfl rfl hnt rfl rfl (by repeat' first | exact trivial | rfl | apply And.intro) (by repeat' first | exact trivial | rfl | apply And.intro) (lex (T := tab) tOk hnt rfl ?_ (Lex.nil _)))) ?_
    · (dsimp only [AllP]; (repeat' first | exact trivial | assumption | exact Nat.le_of_ble_eq_true rfl | apply And.intro | exact eCells_len1 _ _ ‹_› | exact eCells_isByte _ _ ‹_› | (intro hh_; have hg_ := hh_; (try simp only [condT_ff, condF_tt, notE_t, notE_f, Bool.and_eq_true, ne_eq, decide_eq_true_eq, decide_eq_false_iff_not] at hg_)) | intro _ | exact rfl | omega))
    · (dsimp only [AllP]; (repeat' first | exact trivial | assumption | exact Nat.le_of_ble_eq_true rfl | apply And.intro | exact eCells_len1 _ _ ‹_› | exact eCells_isByte _ _ ‹_› | (intro hh_; have hg_ := hh_; (try simp only [condT_ff, condF_tt, notE_t, notE_f, Bool.and_eq_true, ne_eq, decide_eq_true_eq, decide_eq_false_iff_not] at hg_)) | intro _ | exact rfl | omega))
    refine tr_le (s' := St.of [(0, clN), (2, .one (.ptr 2 0 0)), (5, .v (.bool false)), (900000, .one (.ptr 900000 0 0)), (900001, .one (.ptr 900001 0 0)), (900002, .one (.ptr 900002 0 0))] [(900000, ⟨0, .box (.es [eI ((a : Nat) : Int)]), 0⟩), (900001, ⟨0, .box (.es [eBytes b]), 0⟩), (900002, ⟨0, .box (.es [eB f]), 0⟩), (2, ⟨0, .box (.es (eVal val0)), 0⟩)]) (le_of (ad := []) (by refine ⟨?_, ?_, ?_, ?_, ?_, ?_, trivial⟩ <;> first | exact trivial | rfl | exact ⟨rfl, rfl⟩ | exact ⟨rfl, rfl, rfl⟩ | exact ⟨rfl, rfl, rfl, rfl⟩ | exact ⟨rfl, rfl, rfl, rfl, rfl⟩ | exact congrArg (fun z : Int => E.v (.int .i64 z)) (wrap64_id (by omega) (by omega)) | (refine ⟨rfl, ?_⟩; repeat' first | exact trivial | rfl | apply And.intro)) (memOk_box rfl rfl rfl (memOk_box rfl rfl rfl (memOk_box rfl rfl rfl (memOk_box rfl rfl rfl trivial))))) ?_
    repeat' (first | refine tr_seq ?_ | refine reg (T := tab) tOk hnt rfl ?_ ?_ | refine regD (T := tab) tOk mixedR hnt rfl (by decide +kernel) ?_ ?_ | refine tr_block ?_ | refine tr_skip ?_)
    · (dsimp only [AllP]; (repeat' first | exact trivial | assumption | exact Nat.le_of_ble_eq_true rfl | apply And.intro | decide | intro _ | exact rfl))
    repeat' (first | refine tr_seq ?_ | refine tr_block ?_ | refine tr_skip ?_)
    refine tr_cond rfl (fun hc => ?_) (fun hc => ?_)
    · repeat' (first | refine tr_seq ?_ | refine reg (T := tab) tOk hnt rfl ?_ ?_ | refine regD (T := tab) tOk mixedR hnt rfl (by decide +kernel) ?_ ?_ | refine tr_block ?_ | refine tr_skip ?_)
      · (dsimp only [AllP]; (repeat' first | exact trivial | assumption | exact Nat.le_of_ble_eq_true rfl | apply And.intro | decide | intro _ | exact rfl))
      cases hT
      refine tr_ret ⟨.inr rfl, _, _, _, rfl, by (repeat' first | exact trivial | exact Nat.le_of_ble_eq_true rfl | apply And.intro), rfl, fun X => le_of (ad := []) ⟨⟨⟨rfl, rfl⟩, ⟨rfl, rfl⟩, trivial⟩, ⟨rfl, rfl, rfl, rfl, rfl⟩, ⟨rfl, rfl, rfl, rfl, rfl⟩, ⟨rfl, rfl, rfl, rfl, rfl⟩, trivial⟩ (memOk_box rfl rfl (by first | rfl | (rw [Nat.add_assoc]; rfl)) (memOk_box rfl rfl rfl (memOk_box rfl rfl rfl trivial)))⟩
    first | exact absurd (show false = true from hc) Bool.false_ne_true | exact absurd (show true = false from hc).symm Bool.false_ne_true
theorem txF_le : ∀ (n : Nat) (acc s : List UInt8), s.length ≤ n → (txF acc s).2.2 ≤ s.length
  | _, acc, [], _ => by rw [txF]; exact Nat.zero_le _
  | 0, acc, c :: r, h => absurd h (by simp)
  | n + 1, acc, c :: r, h => by
    rw [List.length_cons] at h ⊢
    by_cases hc : c = 0
    · subst hc
      cases r with
      | nil => rw [txF_z0]; exact Nat.le_refl _
      | cons d r =>
        rw [List.length_cons] at h ⊢
        rw [txF_zd]
        have ih := txF_le n (acc ++ [0]) r (by omega)
        split
        · split <;> exact Nat.le_add_left _ _
        · split
          · exact Nat.le_add_left _ _
          · split
            · exact Nat.le_add_left _ _
            · exact Nat.add_le_add_right ih 2
    · rw [txF_ne _ _ hc]
      have ih := txF_le n (acc ++ [c]) r (by omega)
      split
      · exact Nat.le_add_left _ _
      · exact Nat.add_le_add_right ih 1
theorem rdF_le (s : List UInt8) : (rdF s).2.2 ≤ s.length := by
  cases s with
  | nil => exact Nat.le_refl _
  | cons c r =>
    have hx := txF_le r.length [] r (Nat.le_refl _)
    have hk : ∀ v k, (ckF v k).2.2 = k := fun v k => by unfold ckF; split <;> rfl
    rw [rdF, List.length_cons]
    split
    · exact Nat.le_add_left _ _
    split
    · split
      · exact Nat.le_add_left _ _
      · rw [hk]; omega
    split
    · split
      · show 1 + r.length ≤ r.length + 1; omega
      · split <;> rw [hk] <;> omega
    split
    · split
      · show 1 + (txF [] r).2.2 ≤ r.length + 1; omega
      · rw [hk]; omega
    · exact Nat.le_add_left _ _
end Go.Proofs.YtcjeeoimjkhijaaDoor
namespace Go.Proofs.YtcjeeoimjkhijaaDoor
open Go Go.RowKit Go.Proofs.YtcjeeoimjkhijaaDoor.Ab
set_option linter.unusedSimpArgs false
set_option linter.unusedVariables false

theorem take_snocB (l : List UInt8) {j : Nat} (h : j < l.length) : l.take (j + 1) = l.take j ++ [l.getD j 0] := by
  rw [List.take_add_one, List.getElem?_eq_getElem h, List.getD_eq_getElem?_getD, List.getElem?_eq_getElem h]
  rfl
/-! ### whether a column goes down; bytes turned over -/
def dnB (d : Int) (i : Nat) : Bool := decide (d / 2 ^ i % 2 = 1)
theorem i64wrap_small {n : Nat} (h : n < 9223372036854775808) : IntKind.i64.wrap (n : Int) = (n : Int) := wrap64_id (by omega) (by omega)
theorem and_one64 (x : BitVec 64) : (x &&& 1#64).toNat = x.toNat % 2 := by
  rw [BitVec.toNat_and]
  exact Nat.and_one_is_mod _
theorem shr_dn (d : Int) (i : Nat) (hi : i < 5) : decide (IntKind.i64.wrap ((BitVec.ofInt 64 (Int.fdiv d (2 ^ min (Int.toNat (i : Int)) 64)) &&& BitVec.ofInt 64 1).toNat : Int) = 1) = dnB d i := by
  have h1 : BitVec.ofInt 64 1 = 1#64 := by decide
  have hm : min (Int.toNat (i : Int)) 64 = i := Nat.min_eq_left (by omega)
  rw [h1, hm, and_one64, i64wrap_small (by omega), Int.fdiv_eq_ediv_of_nonneg _ (Int.le_of_lt (Int.pow_pos (by decide)))]
  unfold dnB
  rw [decide_eq_decide, BitVec.toNat_ofInt]
  generalize d / 2 ^ i = q
  omega
theorem and_dn (d : Int) (i : Nat) (hi : i < 5) : (!decide (IntKind.i64.wrap ((BitVec.ofInt 64 d &&& BitVec.ofInt 64 (IntKind.i64.wrap (1 * 2 ^ min (Int.toNat (i : Int)) 64))).toNat : Int) = 0)) = dnB d i := by
  have h1 : BitVec.ofInt 64 (IntKind.i64.wrap (1 * 2 ^ min (Int.toNat (i : Int)) 64)) = BitVec.twoPow 64 i := by
    match i, hi with
    | 0, _ => decide
    | 1, _ => decide
    | 2, _ => decide
    | 3, _ => decide
    | 4, _ => decide
  rw [h1, BitVec.and_twoPow]
  have h3 : (BitVec.ofInt 64 d).getLsbD i = dnB d i := by
    rw [BitVec.getLsbD, Nat.testBit_eq_decide_div_mod_eq, BitVec.toNat_ofInt]
    unfold dnB
    rw [decide_eq_decide]
    match i, hi with
    | 0, _ => omega
    | 1, _ => omega
    | 2, _ => omega
    | 3, _ => omega
    | 4, _ => omega
  rw [h3]
  cases dnB d i
  · rfl
  · match i, hi with
    | 0, _ => decide
    | 1, _ => decide
    | 2, _ => decide
    | 3, _ => decide
    | 4, _ => decide
set_option maxRecDepth 10000 in
set_option maxHeartbeats 2000000 in
theorem downs_fn (d : Int) (i : Nat) (hi : i < 5) : FnD Tryd.prog 50 [.one (.e (eI d)), .one (.e (eI (i : Int)))] (.v (.bool (dnB d i))) := by
  refine fn_intro (T := tab) tOk Tryd.func50 rfl (by kernel_rfl) (by simp [Tryd.ntmps50]) ?_
  intro X hX
  have hnt : X.nt = 10 := hX
  clear hX
  repeat' (first | refine tr_seq ?_ | refine tr_block ?_ | refine tr_skip ?_)
  first | refine reg (T := tab) tOk hnt rfl ?_ ?_ | refine regD (T := tab) tOk mixedR hnt rfl (by decide +kernel) ?_ ?_
  · (dsimp only [AllP]; (repeat' first | exact trivial | assumption | exact Nat.le_of_ble_eq_true rfl | apply And.intro | exact eCells_len1 _ _ ‹_› | exact eCells_isByte _ _ ‹_› | (intro hh_; have hg_ := hh_; (try simp only [condT_ff, condF_tt, notE_t, notE_f, Bool.and_eq_true, ne_eq, decide_eq_true_eq, decide_eq_false_iff_not] at hg_)) | intro _ | exact rfl | omega))
  repeat' (first | refine tr_seq ?_ | refine tr_block ?_ | refine tr_skip ?_)
  first | refine reg (T := tab) tOk hnt rfl ?_ ?_ | refine regD (T := tab) tOk mixedR hnt rfl (by decide +kernel) ?_ ?_
  · (dsimp only [AllP]; (repeat' first | exact trivial | assumption | exact Nat.le_of_ble_eq_true rfl | apply And.intro | exact rfl | omega))
  repeat' (first | refine tr_seq ?_ | refine tr_block ?_ | refine tr_skip ?_)
  refine tr_ret ⟨.inr rfl, _, _, rfl, by trivial, ?_⟩
  exact congrArg (fun z : Bool => D.v (.bool z)) (and_dn d i hi)
def flB (c : UInt8) : UInt8 := ~~~c
theorem flB_sub : ∀ c : UInt8, IntKind.u8.wrap (255 - (c.toNat : Int)) = ((flB c).toNat : Int) := by
  have h : ∀ n : Fin 256, IntKind.u8.wrap (255 - (n.val : Int)) = ((flB (UInt8.ofNat n.val)).toNat : Int) := by decide +kernel
  intro c
  have := h ⟨c.toNat, c.toNat_lt⟩
  simpa using this
theorem flB_xor : ∀ c : UInt8, IntKind.u8.wrap ((BitVec.ofInt IntKind.u8.bits 255 ^^^ BitVec.ofInt IntKind.u8.bits (c.toNat : Int)).toNat : Int) = ((flB c).toNat : Int) := by
  have h : ∀ n : Fin 256, IntKind.u8.wrap ((BitVec.ofInt IntKind.u8.bits 255 ^^^ BitVec.ofInt IntKind.u8.bits (n.val : Int)).toNat : Int) = ((flB (UInt8.ofNat n.val)).toNat : Int) := by decide +kernel
  intro c
  have := h ⟨c.toNat, c.toNat_lt⟩
  simpa using this
theorem setB (l : List UInt8) (j : Nat) (c : UInt8) (h : j < l.length) : setEl (eCells l) j 0 1 [eB c] = eCells (l.set j c) := by
  have h1 := eCells_len1 l _ (List.getElem_mem (by rw [eCells_length]; exact h) : (eCells l)[j]'(by rw [eCells_length]; exact h) ∈ eCells l)
  have h2 : (eCells l).getD j [] = (eCells l)[j]'(by rw [eCells_length]; exact h) := by rw [List.getD_eq_getElem?_getD, List.getElem?_eq_getElem (by rw [eCells_length]; exact h)]; rfl
  unfold setEl
  rw [h2, List.drop_eq_nil_of_le (by omega), List.take_zero, List.nil_append, List.append_nil]
  unfold eCells
  rw [List.map_set]
def fpB (s : Byt) (j : Nat) : List UInt8 := (s.take j).map flB ++ s.drop j
theorem fpB_len (s : Byt) (j : Nat) : (fpB s j).length = s.length := by
  unfold fpB
  rw [List.length_append, List.length_map, List.length_take, List.length_drop]
  omega
theorem fpB_get {s : Byt} {j : Nat} (h : j < s.length) : (fpB s j).getD j 0 = s.getD j 0 := by
  unfold fpB
  have hl : ((s.take j).map flB).length = j := by rw [List.length_map, List.length_take]; omega
  rw [List.getD_eq_getElem?_getD, List.getElem?_append_right (by omega), hl, Nat.sub_self, List.getElem?_drop, Nat.add_zero, ← List.getD_eq_getElem?_getD]
theorem fpB_set {s : Byt} {j : Nat} (h : j < s.length) : (fpB s j).set j (flB (s.getD j 0)) = fpB s (j + 1) := by
  unfold fpB
  have hl : ((s.take j).map flB).length = j := by rw [List.length_map, List.length_take]; omega
  rw [List.set_append_right _ _ (by omega), hl, Nat.sub_self, drop_getD (d := 0) h, List.set_cons_zero, take_snocB s h, List.map_append, List.append_assoc]
  rfl
set_option maxRecDepth 10000 in
set_option maxHeartbeats 2000000 in
theorem flipped_fn (s : Byt) (hs : s.length ≤ maxLen) : FnD Tryd.prog 51 [.one (.e (eT s))] (.v (.string (strB (s.map flB)))) := by
  refine fn_intro (T := tab) tOk Tryd.func51 rfl (by kernel_rfl) (by simp [Tryd.ntmps51]) ?_
  intro X hX
  have hnt : X.nt = 23 := hX
  clear hX
  have hl : (strB s).size = s.length := strB_size s
  have hs' : s.length ≤ 9223372036854775807 := hs
  have hl2 : (strB s).size ≤ maxLen := by rw [hl]; exact hs
  repeat' (first | refine tr_seq ?_ | refine tr_block ?_ | refine tr_skip ?_)
  first | refine reg (T := tab) tOk hnt rfl ?_ ?_ | refine regD (T := tab) tOk mixedR hnt rfl (by decide +kernel) ?_ ?_
  · (dsimp only [AllP]; (repeat' first | exact trivial | assumption | exact Nat.le_of_ble_eq_true rfl | apply And.intro | exact eCells_len1 _ _ ‹_› | exact eCells_isByte _ _ ‹_› | (intro hh_; have hg_ := hh_; (try simp only [condT_ff, condF_tt, notE_t, notE_f, Bool.and_eq_true, ne_eq, decide_eq_true_eq, decide_eq_false_iff_not] at hg_)) | intro _ | exact rfl | omega))
  repeat' (first | refine tr_seq ?_ | refine tr_block ?_ | refine tr_skip ?_)
  first | refine reg (T := tab) tOk hnt rfl ?_ ?_ | refine regD (T := tab) tOk mixedR hnt rfl (by decide +kernel) ?_ ?_
  · (dsimp only [AllP]; (repeat' first | exact trivial | assumption | exact Nat.le_of_ble_eq_true rfl | apply And.intro | exact eCells_len1 _ _ ‹_› | exact eCells_isByte _ _ ‹_› | (intro hh_; have hg_ := hh_; (try simp only [condT_ff, condF_tt, notE_t, notE_f, Bool.and_eq_true, ne_eq, decide_eq_true_eq, decide_eq_false_iff_not] at hg_)) | intro _ | exact rfl | omega))
  repeat' (first | refine tr_seq ?_ | refine tr_block ?_ | refine tr_skip ?_)
  first | refine reg (T := tab) tOk hnt rfl ?_ ?_ | refine regD (T := tab) tOk mixedR hnt rfl (by decide +kernel) ?_ ?_
  · (dsimp only [AllP]; (repeat' first | exact trivial | assumption | exact Nat.le_of_ble_eq_true rfl | apply And.intro | exact eCells_len1 _ _ ‹_› | exact eCells_isByte _ _ ‹_› | (intro hh_; have hg_ := hh_; (try simp only [condT_ff, condF_tt, notE_t, notE_f, Bool.and_eq_true, ne_eq, decide_eq_true_eq, decide_eq_false_iff_not] at hg_)) | intro _ | exact rfl | omega))
  rw [strBytes_B]
  repeat' (first | refine tr_seq ?_ | refine tr_block ?_ | refine tr_skip ?_)
  refine tr_loop (σ := Nat) (fun j => St.of [(3, .one (.own 6 0)), (8, .one (.e (eI ((eCells s).length : Int)))), (9, .one (.e (eI (j : Int))))] [(6, ⟨0, .row 1 (eCells (fpB s j)), 0⟩)]) (fun j => j ≤ s.length) (fun j => s.length - j) (0) (le_of (ad := []) (by refine ⟨?_, ?_, ?_, trivial⟩ <;> first | exact trivial | rfl | exact ⟨rfl, rfl⟩ | exact ⟨rfl, rfl, rfl⟩ | exact ⟨rfl, rfl, rfl, rfl⟩ | exact ⟨rfl, rfl, rfl, rfl, rfl⟩ | exact congrArg (fun z : Int => E.v (.int .i64 z)) (wrap64_id (by omega) (by omega)) | (refine ⟨rfl, ?_⟩; repeat' first | exact trivial | rfl | apply And.intro)) (memOk_row rfl rfl rfl trivial)) (Nat.zero_le _) ?_
  rintro j jl
  have hel : (eCells (fpB s j)).length = s.length := by rw [eCells_length, fpB_len]
  repeat' (first | refine tr_seq ?_ | refine reg (T := tab) tOk hnt rfl ?_ ?_ | refine regD (T := tab) tOk mixedR hnt rfl (by decide +kernel) ?_ ?_ | refine tr_block ?_ | refine tr_skip ?_)
  · (dsimp only [AllP]; (repeat' first | exact trivial | assumption | exact Nat.le_of_ble_eq_true rfl | apply And.intro | decide | intro _ | exact rfl))
  repeat' (first | refine tr_seq ?_ | refine tr_block ?_ | refine tr_skip ?_)
  refine tr_cond rfl (fun hc => ?_) (fun hc => ?_)
  · have hc := of_decide_eq_true hc
    rw [eCells_length] at hc
    have hlt : j < s.length := by omega
    have hfl : (fpB s j).length = s.length := fpB_len s j
    have hrd := rdB (fpB s j) j (by omega)
    have hrl := rdL (fpB s j) j (by omega)
    have hra := rdA (fpB s j) j (by omega)
    have hrc := rdC (fpB s j) j (by omega)
    rw [fpB_get hlt] at hrd
    have hset : setEl (eCells (fpB s j)) j 0 1 [E.v (.int .u8 ((flB (s.getD j 0)).toNat : Int))] = eCells (fpB s (j + 1)) := (setB _ _ _ (by omega)).trans (congrArg eCells (fpB_set hlt))
    repeat' (first | refine tr_seq ?_ | refine tr_block ?_ | refine tr_skip ?_)
    first | refine reg (T := tab) tOk hnt rfl ?_ ?_ | refine regD (T := tab) tOk mixedR hnt rfl (by decide +kernel) ?_ ?_
    · (dsimp only [AllP]; (repeat' first | exact trivial | assumption | exact Nat.le_of_ble_eq_true rfl | apply And.intro | exact eCells_len1 _ _ ‹_› | exact eCells_isByte _ _ ‹_› | (intro hh_; have hg_ := hh_; (try simp only [condT_ff, condF_tt, notE_t, notE_f, Bool.and_eq_true, ne_eq, decide_eq_true_eq, decide_eq_false_iff_not] at hg_)) | intro _ | exact rfl | omega))
    repeat' (first | refine tr_seq ?_ | refine tr_block ?_ | refine tr_skip ?_)
    first | refine reg (T := tab) tOk hnt rfl ?_ ?_ | refine regD (T := tab) tOk mixedR hnt rfl (by decide +kernel) ?_ ?_
    · rw [Int.toNat_natCast, hrd, hel]
      (dsimp only [AllP]; (repeat' first | exact trivial | assumption | exact Nat.le_of_ble_eq_true rfl | apply And.intro | exact eCells_len1 _ _ ‹_› | exact eCells_isByte _ _ ‹_› | (intro hh_; have hg_ := hh_; (try simp only [condT_ff, condF_tt, notE_t, notE_f, Bool.and_eq_true, ne_eq, decide_eq_true_eq, decide_eq_false_iff_not] at hg_)) | intro _ | exact rfl | omega))
      all_goals trace_state
    rw [Int.toNat_natCast, hrd, flB_sub]
    repeat' (first | refine tr_seq ?_ | refine reg (T := tab) tOk hnt rfl ?_ ?_ | refine regD (T := tab) tOk mixedR hnt rfl (by decide +kernel) ?_ ?_ | refine tr_block ?_ | refine tr_skip ?_)
    · (dsimp only [AllP]; (repeat' first | exact trivial | assumption | exact Nat.le_of_ble_eq_true rfl | apply And.intro | decide | intro _ | exact rfl))
    refine ⟨j + 1, (by omega), by omega, le_of (ad := []) (by refine ⟨?_, ?_, ?_, trivial⟩ <;> first | exact trivial | rfl | exact ⟨rfl, rfl⟩ | exact ⟨rfl, rfl, rfl⟩ | exact ⟨rfl, rfl, rfl, rfl⟩ | exact ⟨rfl, rfl, rfl, rfl, rfl⟩ | exact congrArg (fun z : Int => E.v (.int .i64 z)) (wrap64_id (by omega) (by omega)) | (refine ⟨rfl, ?_⟩; repeat' first | exact trivial | rfl | apply And.intro)) (memOk_row rfl rfl hset trivial)⟩
  have hc := of_decide_eq_false hc
  rw [eCells_length] at hc
  refine tr_exit ?_
  have : j = s.length := by omega
  subst this
  have he : fpB s s.length = s.map flB := by unfold fpB; rw [List.take_length, List.drop_length, List.append_nil]
  rw [he]
  repeat' (first | refine tr_seq ?_ | refine tr_block ?_ | refine tr_skip ?_)
  first | refine reg (T := tab) tOk hnt rfl ?_ ?_ | refine regD (T := tab) tOk mixedR hnt rfl (by decide +kernel) ?_ ?_
  · (dsimp only [AllP]; (repeat' first | exact trivial | exact Nat.le_of_ble_eq_true rfl | apply And.intro | exact rfl | exact eCells_isByte _))
    all_goals trace_state
  repeat' (first | refine tr_seq ?_ | refine tr_block ?_ | refine tr_skip ?_)
  refine tr_ret ⟨.inr rfl, _, _, rfl, by (repeat' first | exact trivial | exact Nat.le_of_ble_eq_true rfl | apply And.intro), ?_⟩
  rw [bytesOf_eCells]
  rfl
def flp (d : Int) (i : Nat) : UInt8 := if dnB d i = true then 255 else 0
/-- k values more, from value i and place a on: they, what is wrong, the place -/
def dcG (b : List UInt8) (d : Int) : Nat → Nat → Nat → List Val × Int × Nat
  | 0, _, a => ([], 0, a)
  | k + 1, i, a => if (rdF (sv b a (flp d i))).2.1 ≠ 0 then ([], (rdF (sv b a (flp d i))).2.1, a) else
    ((rdF (sv b a (flp d i))).1 :: (dcG b d k (i + 1) (a + (rdF (sv b a (flp d i))).2.2)).1, (dcG b d k (i + 1) (a + (rdF (sv b a (flp d i))).2.2)).2)
def decF (b : List UInt8) (n d : Int) : List Val × Int :=
  if n < 0 ∨ 5 < n then ([], 1) else
  if (dcG b d n.toNat 0 0).2.1 ≠ 0 then ([], (dcG b d n.toNat 0 0).2.1) else
  if (dcG b d n.toNat 0 0).2.2 ≠ b.length then ([], 3) else ((dcG b d n.toNat 0 0).1, 0)
def rD (q : List Val × Int) : D := .tup [(false, .es [eRow q.1]), (false, .es [eI q.2])]
set_option maxRecDepth 10000 in
set_option maxHeartbeats 2000000 in
theorem Decode_fn (b : List UInt8) (n d : Int) (hb : b.length ≤ maxLen) (hV : ∀ l : List UInt8, l.length ≤ 40 → FnG Tryd.prog 96 gK [.one (.e (eBytes l))] (.v (.bool (vld l)))) : FnG Tryd.prog 19 gK [.one (.e (eBytes b)), .one (.e (eI n)), .one (.e (eI d))] (rD (decF b n d)) := by
  refine fn_introG (T := tab) tOk Tryd.func19 rfl (by kernel_rfl) (by simp [Tryd.ntmps19]) ?_
  intro X hX
  have hnt : X.nt = 49 := hX
  clear hX
  have hbl : (eCells b).length = b.length := eCells_length b
  unfold decF
  repeat' (first | refine tr_seq ?_ | refine reg (T := tab) tOk hnt rfl ?_ ?_ | refine regD (T := tab) tOk mixedR hnt rfl (by decide +kernel) ?_ ?_ | refine tr_block ?_ | refine tr_skip ?_)
  · (dsimp only [AllP]; (repeat' first | exact trivial | assumption | exact Nat.le_of_ble_eq_true rfl | apply And.intro | decide | intro _ | exact rfl))
  · (dsimp only [AllP]; (repeat' first | exact trivial | assumption | exact Nat.le_of_ble_eq_true rfl | apply And.intro | decide | intro _ | exact rfl))
  repeat' (first | refine tr_seq ?_ | refine tr_block ?_ | refine tr_skip ?_)
  refine tr_cond rfl (fun hc => ?_) (fun hc => ?_)
  · have hc : (bif decide (n < 0) then true else decide (5 < n)) = true := hc
    simp only [condT_tt, condT_ff, condF_tt, condF_ff, notE_t, notE_f, decide_eq_true_eq, decide_eq_false_iff_not] at hc
    rw [if_pos hc]
    repeat' (first | refine tr_seq ?_ | refine reg (T := tab) tOk hnt rfl ?_ ?_ | refine regD (T := tab) tOk mixedR hnt rfl (by decide +kernel) ?_ ?_ | refine tr_block ?_ | refine tr_skip ?_)
    · (dsimp only [AllP]; (repeat' first | exact trivial | assumption | exact Nat.le_of_ble_eq_true rfl | apply And.intro | decide | intro _ | exact rfl))
    refine tr_ret ⟨.inr rfl, _, _, rfl, by (repeat' first | exact trivial | exact Nat.le_of_ble_eq_true rfl | apply And.intro), ?_⟩
    exact rfl
  have hc : (bif decide (n < 0) then true else decide (5 < n)) = false := hc
  simp only [condT_tt, condT_ff, condF_tt, condF_ff, notE_t, notE_f, decide_eq_true_eq, decide_eq_false_iff_not] at hc
  rw [if_neg (by omega)]
  generalize hR : dcG b d n.toNat 0 0 = R at *
  obtain ⟨r1, r2, r3⟩ := R
  dsimp only
  repeat' (first | refine tr_seq ?_ | refine reg (T := tab) tOk hnt rfl ?_ ?_ | refine regD (T := tab) tOk mixedR hnt rfl (by decide +kernel) ?_ ?_ | refine tr_block ?_ | refine tr_skip ?_)
  · (dsimp only [AllP]; (repeat' first | exact trivial | assumption | exact Nat.le_of_ble_eq_true rfl | apply And.intro | decide | intro _ | exact rfl))
  · (dsimp only [AllP]; (repeat' first | exact trivial | assumption | exact Nat.le_of_ble_eq_true rfl | apply And.intro | decide | intro _ | exact rfl))
  · (dsimp only [AllP]; (repeat' first | exact trivial | assumption | exact Nat.le_of_ble_eq_true rfl | apply And.intro | decide | intro _ | exact rfl))
  · (dsimp only [AllP]; (repeat' first | exact trivial | assumption | exact Nat.le_of_ble_eq_true rfl | apply And.intro | decide | intro _ | exact rfl))
  repeat' (first | refine tr_seq ?_ | refine tr_block ?_ | refine tr_skip ?_)
  refine tr_loop (σ := Nat × Nat × List Val) (fun y => St.of [(2, .one (.e (eI d))), (3, .one (.ptr 3 0 0)), (8, .one (.ptr 8 0 0)), (9, .one (.ptr 9 0 0)), (10, .one (.clo 48 [(8, 0, 0), (3, 0, 0), (9, 0, 0)])), (11, .one (.own 42 0)), (22, .one (.e (eI n))), (23, .one (.e (eI (y.1 : Int)))), ((1000000 + 0), .one (.eptr fsE)), ((1000000 + 1), .one (.eptr acE))] [(8, ⟨0, .box (.es [eI ((y.2.1 : Nat) : Int)]), 0⟩), (3, ⟨0, .box (.es [eBytes b]), 0⟩), (9, ⟨0, .box (.es [eB (if y.1 = 0 then 0 else flp d (y.1 - 1))]), 0⟩), (42, ⟨0, .row 4 ((y.2.2).map eVal), 0⟩)]) (fun y => (dcG b d (n.toNat - y.1) y.1 y.2.1).2 = (r2, r3) ∧ (r2 = 0 → y.2.2 ++ (dcG b d (n.toNat - y.1) y.1 y.2.1).1 = r1) ∧ y.1 ≤ n.toNat ∧ y.2.1 ≤ b.length ∧ y.2.2.length = y.1) (fun y => n.toNat - y.1) ((0, 0, [])) (le_of (ad := [42]) (by refine ⟨?_, ?_, ?_, ?_, ?_, ?_, ?_, ?_, ?_, ?_, trivial⟩ <;> first | exact trivial | rfl | exact ⟨rfl, rfl⟩ | exact ⟨rfl, rfl, rfl⟩ | exact ⟨rfl, rfl, rfl, rfl⟩ | exact ⟨rfl, rfl, rfl, rfl, rfl⟩ | exact congrArg (fun z : Int => E.v (.int .i64 z)) (wrap64_id (by omega) (by omega)) | (refine ⟨rfl, ?_⟩; repeat' first | exact trivial | rfl | apply And.intro)) (memOk_box rfl rfl rfl (memOk_box rfl rfl rfl (memOk_box rfl rfl rfl (memOk_new rfl (by decide) trivial))))) ⟨by rw [Nat.sub_zero, hR], fun _ => by rw [Nat.sub_zero, hR]; rfl, Nat.zero_le _, Nat.zero_le _, rfl⟩ ?_
  rintro ⟨i, a, acc⟩ ⟨h1, h2, il, al, hal⟩
  dsimp only at h1 h2 il al hal ⊢
  repeat' (first | refine tr_seq ?_ | refine reg (T := tab) tOk hnt rfl ?_ ?_ | refine regD (T := tab) tOk mixedR hnt rfl (by decide +kernel) ?_ ?_ | refine tr_block ?_ | refine tr_skip ?_)
  · (dsimp only [AllP]; (repeat' first | exact trivial | assumption | exact Nat.le_of_ble_eq_true rfl | apply And.intro | decide | intro _ | exact rfl))
  repeat' (first | refine tr_seq ?_ | refine tr_block ?_ | refine tr_skip ?_)
  refine tr_cond rfl (fun hc => ?_) (fun hc => ?_)
  · simp only [condT_tt, condT_ff, condF_tt, condF_ff, notE_t, notE_f, decide_eq_true_eq, decide_eq_false_iff_not] at hc
    have hlt : i < n.toNat := by omega
    have hrl := rdF_le (sv b a (flp d i))
    rw [sv_len] at hrl
    have hrd := read_fn a b (flp d i) al hb hV
    rw [show n.toNat - i = (n.toNat - i - 1) + 1 by omega, dcG] at h1 h2
    generalize rdF (sv b a (flp d i)) = q at *
    obtain ⟨q1, q2, q3⟩ := q
    dsimp only at hrl h1 h2
    have hsh := shr_dn d i (by omega)
    repeat' (first | refine tr_seq ?_ | refine tr_block ?_ | refine tr_skip ?_)
    first | refine reg (T := tab) tOk hnt rfl ?_ ?_ | refine regD (T := tab) tOk mixedR hnt rfl (by decide +kernel) ?_ ?_
    · (dsimp only [AllP]; (repeat' first | exact trivial | assumption | exact Nat.le_of_ble_eq_true rfl | apply And.intro | exact eCells_len1 _ _ ‹_› | exact eCells_isByte _ _ ‹_› | (intro hh_; have hg_ := hh_; (try simp only [condT_ff, condF_tt, notE_t, notE_f, Bool.and_eq_true, ne_eq, decide_eq_true_eq, decide_eq_false_iff_not] at hg_)) | intro _ | exact rfl | omega))
    repeat' (first | refine tr_seq ?_ | refine tr_block ?_ | refine tr_skip ?_)
    first | refine reg (T := tab) tOk hnt rfl ?_ ?_ | refine regD (T := tab) tOk mixedR hnt rfl (by decide +kernel) ?_ ?_
    · (dsimp only [AllP]; (repeat' first | exact trivial | assumption | exact Nat.le_of_ble_eq_true rfl | apply And.intro | exact eCells_len1 _ _ ‹_› | exact eCells_isByte _ _ ‹_› | (intro hh_; have hg_ := hh_; (try simp only [condT_ff, condF_tt, notE_t, notE_f, Bool.and_eq_true, ne_eq, decide_eq_true_eq, decide_eq_false_iff_not] at hg_)) | intro _ | exact rfl | omega))
    repeat' (first | refine tr_seq ?_ | refine tr_block ?_ | refine tr_skip ?_)
    first | refine reg (T := tab) tOk hnt rfl ?_ ?_ | refine regD (T := tab) tOk mixedR hnt rfl (by decide +kernel) ?_ ?_
    · (dsimp only [AllP]; (repeat' first | exact trivial | assumption | exact Nat.le_of_ble_eq_true rfl | apply And.intro | exact eCells_len1 _ _ ‹_› | exact eCells_isByte _ _ ‹_› | (intro hh_; have hg_ := hh_; (try simp only [condT_ff, condF_tt, notE_t, notE_f, Bool.and_eq_true, ne_eq, decide_eq_true_eq, decide_eq_false_iff_not] at hg_)) | intro _ | exact rfl | omega))
      all_goals trace_state
    repeat' (first | refine tr_seq ?_ | refine tr_block ?_ | refine tr_skip ?_)
    refine tr_cond rfl (fun hc => ?_) (fun hc => ?_)
    · have hc : dnB d i = true := hsh.symm.trans hc
      have hfl : flp d i = 255 := by unfold flp; rw [if_pos hc]
      repeat' (first | refine tr_seq ?_ | refine tr_block ?_ | refine tr_skip ?_)
      first | refine reg (T := tab) tOk hnt rfl ?_ ?_ | refine regD (T := tab) tOk mixedR hnt rfl (by decide +kernel) ?_ ?_
      · (dsimp only [AllP]; (repeat' first | exact trivial | assumption | exact Nat.le_of_ble_eq_true rfl | apply And.intro | exact eCells_len1 _ _ ‹_› | exact eCells_isByte _ _ ‹_› | (intro hh_; have hg_ := hh_; (try simp only [condT_ff, condF_tt, notE_t, notE_f, Bool.and_eq_true, ne_eq, decide_eq_true_eq, decide_eq_false_iff_not] at hg_)) | intro _ | exact rfl | omega))
      refine tr_le (s' := St.of [(2, .one (.e (eI d))), (3, .one (.ptr 3 0 0)), (8, .one (.ptr 8 0 0)), (9, .one (.ptr 9 0 0)), (10, .one (.clo 48 [(8, 0, 0), (3, 0, 0), (9, 0, 0)])), (11, .one (.own 42 0)), (22, .one (.e (eI n))), (23, .one (.e (eI (i : Int)))), ((1000000 + 0), .one (.eptr fsE)), ((1000000 + 1), .one (.eptr acE))] [(8, ⟨0, .box (.es [eI ((a : Nat) : Int)]), 0⟩), (3, ⟨0, .box (.es [eBytes b]), 0⟩), (9, ⟨0, .box (.es [eB (flp d i)]), 0⟩), (42, ⟨0, .row 4 ((acc).map eVal), 0⟩)]) (le_of (ad := []) (by refine ⟨?_, ?_, ?_, ?_, ?_, ?_, ?_, ?_, ?_, ?_, trivial⟩ <;> first | exact trivial | rfl | exact ⟨rfl, rfl⟩ | exact ⟨rfl, rfl, rfl⟩ | exact ⟨rfl, rfl, rfl, rfl⟩ | exact ⟨rfl, rfl, rfl, rfl, rfl⟩ | exact congrArg (fun z : Int => E.v (.int .i64 z)) (wrap64_id (by omega) (by omega)) | (refine ⟨rfl, ?_⟩; repeat' first | exact trivial | rfl | apply And.intro)) (memOk_box rfl rfl rfl (memOk_box rfl rfl rfl (memOk_box rfl rfl (by rw [hfl]; rfl) (memOk_row rfl rfl rfl trivial))))) ?_
      repeat' (first | refine tr_seq ?_ | refine tr_block ?_ | refine tr_skip ?_)
      refine tr_region (lex (T := tab) tOk hnt rfl ?_ (callH (us := []) [(900000, 8), (900001, 3), (900002, 9)] [] [] rfl rfl rfl rfl (hrd) (by repeat' first | exact .nil | refine .lent rfl rfl rfl ?_ | refine .data rfl ?_) (fun _ => rfl) rfl rfl hnt rfl rfl (by repeat' first | exact trivial | rfl | apply And.intro) (by repeat' first | exact trivial | rfl | apply And.intro) (lex (T := tab) tOk hnt rfl ?_ (Lex.nil _)))) ?_
      · (dsimp only [AllP]; (repeat' first | exact trivial | assumption | exact Nat.le_of_ble_eq_true rfl | apply And.intro | exact eCells_len1 _ _ ‹_› | exact eCells_isByte _ _ ‹_› | (intro hh_; have hg_ := hh_; (try simp only [condT_ff, condF_tt, notE_t, notE_f, Bool.and_eq_true, ne_eq, decide_eq_true_eq, decide_eq_false_iff_not] at hg_)) | intro _ | exact rfl | omega))
      · (dsimp only [AllP]; (repeat' first | exact trivial | assumption | exact Nat.le_of_ble_eq_true rfl | apply And.intro | exact eCells_len1 _ _ ‹_› | exact eCells_isByte _ _ ‹_› | (intro hh_; have hg_ := hh_; (try simp only [condT_ff, condF_tt, notE_t, notE_f, Bool.and_eq_true, ne_eq, decide_eq_true_eq, decide_eq_false_iff_not] at hg_)) | intro _ | exact rfl | omega))
      refine tr_le (s' := St.of [(2, .one (.e (eI d))), (3, .one (.ptr 3 0 0)), (8, .one (.ptr 8 0 0)), (9, .one (.ptr 9 0 0)), (10, .one (.clo 48 [(8, 0, 0), (3, 0, 0), (9, 0, 0)])), (11, .one (.own 42 0)), (22, .one (.e (eI n))), (23, .one (.e (eI (i : Int)))), (13, .one (.ptr 13 0 0)), (14, .one (.e (eI q2))), ((1000000 + 0), .one (.eptr fsE)), ((1000000 + 1), .one (.eptr acE))] [(8, ⟨0, .box (.es [eI ((a + q3 : Nat) : Int)]), 0⟩), (3, ⟨0, .box (.es [eBytes b]), 0⟩), (9, ⟨0, .box (.es [eB (flp d i)]), 0⟩), (42, ⟨0, .row 4 ((acc).map eVal), 0⟩), (13, ⟨0, .box (.es (eVal q1)), 0⟩)]) (le_of (ad := []) (by refine ⟨?_, ?_, ?_, ?_, ?_, ?_, ?_, ?_, ?_, ?_, ?_, ?_, trivial⟩ <;> first | exact trivial | rfl | exact ⟨rfl, rfl⟩ | exact ⟨rfl, rfl, rfl⟩ | exact ⟨rfl, rfl, rfl, rfl⟩ | exact ⟨rfl, rfl, rfl, rfl, rfl⟩ | exact congrArg (fun z : Int => E.v (.int .i64 z)) (wrap64_id (by omega) (by omega)) | (refine ⟨rfl, ?_⟩; repeat' first | exact trivial | rfl | apply And.intro)) (memOk_box rfl rfl rfl (memOk_box rfl rfl rfl (memOk_box rfl rfl rfl (memOk_row rfl rfl rfl (memOk_box rfl rfl rfl trivial)))))) ?_
      repeat' (first | refine tr_seq ?_ | refine reg (T := tab) tOk hnt rfl ?_ ?_ | refine regD (T := tab) tOk mixedR hnt rfl (by decide +kernel) ?_ ?_ | refine tr_block ?_ | refine tr_skip ?_)
      · (dsimp only [AllP]; (repeat' first | exact trivial | assumption | exact Nat.le_of_ble_eq_true rfl | apply And.intro | decide | intro _ | exact rfl))
      repeat' (first | refine tr_seq ?_ | refine tr_block ?_ | refine tr_skip ?_)
      refine tr_cond rfl (fun hc => ?_) (fun hc => ?_)
      · have hc : (!decide (q2 = 0)) = true := hc
        simp only [condT_tt, condT_ff, condF_tt, condF_ff, notE_t, notE_f, decide_eq_true_eq, decide_eq_false_iff_not] at hc
        rw [if_pos hc] at h1 h2
        have e2 : q2 = r2 := congrArg Prod.fst h1
        rw [if_pos (by rw [← e2]; exact hc), ← e2]
        repeat' (first | refine tr_seq ?_ | refine reg (T := tab) tOk hnt rfl ?_ ?_ | refine regD (T := tab) tOk mixedR hnt rfl (by decide +kernel) ?_ ?_ | refine tr_block ?_ | refine tr_skip ?_)
        · (dsimp only [AllP]; (repeat' first | exact trivial | assumption | exact Nat.le_of_ble_eq_true rfl | apply And.intro | decide | intro _ | exact rfl))
        refine tr_ret ⟨.inr rfl, _, _, rfl, by (repeat' first | exact trivial | exact Nat.le_of_ble_eq_true rfl | apply And.intro), ?_⟩
        exact rfl
      have hc : (!decide (q2 = 0)) = false := hc
      simp only [condT_tt, condT_ff, condF_tt, condF_ff, notE_t, notE_f, decide_eq_true_eq, decide_eq_false_iff_not] at hc
      rw [if_neg (not_not_intro hc)] at h1 h2
      have hq1 : ((acc.map eVal).length + [eVal q1].length) ≤ maxLen := by rw [List.length_map]; show acc.length + 1 ≤ maxLen; unfold maxLen; omega
      have hq2 : ((acc.map eVal).length + [eVal q1].length) * 40 ≤ 140737488355328 := by rw [List.length_map]; show (acc.length + 1) * 40 ≤ _; omega
      have hap : acc.map eVal ++ [eVal q1] = (acc ++ [q1]).map eVal := by rw [List.map_append]; rfl
      repeat' (first | refine tr_seq ?_ | refine tr_block ?_ | refine tr_skip ?_)
      first | refine reg (T := tab) tOk hnt rfl ?_ ?_ | refine regD (T := tab) tOk mixedR hnt rfl (by decide +kernel) ?_ ?_
      · (dsimp only [AllP]; (repeat' first | exact trivial | assumption | exact Nat.le_of_ble_eq_true rfl | apply And.intro | exact eCells_len1 _ _ ‹_› | exact eCells_isByte _ _ ‹_› | (intro hh_; have hg_ := hh_; (try simp only [condT_ff, condF_tt, notE_t, notE_f, Bool.and_eq_true, ne_eq, decide_eq_true_eq, decide_eq_false_iff_not] at hg_)) | intro _ | exact rfl | omega))
        all_goals trace_state
      repeat' (first | refine tr_seq ?_ | refine reg (T := tab) tOk hnt rfl ?_ ?_ | refine regD (T := tab) tOk mixedR hnt rfl (by decide +kernel) ?_ ?_ | refine tr_block ?_ | refine tr_skip ?_)
      · (dsimp only [AllP]; (repeat' first | exact trivial | assumption | exact Nat.le_of_ble_eq_true rfl | apply And.intro | decide | intro _ | exact rfl))
      refine ⟨(i + 1, a + q3, acc ++ [q1]), ⟨by dsimp only; rw [show n.toNat - (i + 1) = n.toNat - i - 1 by omega]; exact h1, by dsimp only; rw [show n.toNat - (i + 1) = n.toNat - i - 1 by omega]; intro hh; rw [List.append_assoc]; exact h2 hh, by dsimp only; omega, by dsimp only; omega, by dsimp only; rw [List.length_append]; show acc.length + 1 = i + 1; omega⟩, by dsimp only; omega, le_of (ad := []) (by refine ⟨?_, ?_, ?_, ?_, ?_, ?_, ?_, ?_, ?_, ?_, trivial⟩ <;> first | exact trivial | rfl | exact ⟨rfl, rfl⟩ | exact ⟨rfl, rfl, rfl⟩ | exact ⟨rfl, rfl, rfl, rfl⟩ | exact ⟨rfl, rfl, rfl, rfl, rfl⟩ | exact congrArg (fun z : Int => E.v (.int .i64 z)) (wrap64_id (by omega) (by omega)) | (refine ⟨rfl, ?_⟩; repeat' first | exact trivial | rfl | apply And.intro)) (memOk_box rfl rfl rfl (memOk_box rfl rfl rfl (memOk_box rfl rfl rfl (memOk_row rfl rfl hap trivial))))⟩
    have hc : dnB d i = false := hsh.symm.trans hc
    have hfl : flp d i = 0 := by unfold flp; rw [if_neg (by rw [hc]; exact Bool.false_ne_true)]
    refine tr_le (s' := St.of [(2, .one (.e (eI d))), (3, .one (.ptr 3 0 0)), (8, .one (.ptr 8 0 0)), (9, .one (.ptr 9 0 0)), (10, .one (.clo 48 [(8, 0, 0), (3, 0, 0), (9, 0, 0)])), (11, .one (.own 42 0)), (22, .one (.e (eI n))), (23, .one (.e (eI (i : Int)))), ((1000000 + 0), .one (.eptr fsE)), ((1000000 + 1), .one (.eptr acE))] [(8, ⟨0, .box (.es [eI ((a : Nat) : Int)]), 0⟩), (3, ⟨0, .box (.es [eBytes b]), 0⟩), (9, ⟨0, .box (.es [eB (flp d i)]), 0⟩), (42, ⟨0, .row 4 ((acc).map eVal), 0⟩)]) (le_of (ad := []) (by refine ⟨?_, ?_, ?_, ?_, ?_, ?_, ?_, ?_, ?_, ?_, trivial⟩ <;> first | exact trivial | rfl | exact ⟨rfl, rfl⟩ | exact ⟨rfl, rfl, rfl⟩ | exact ⟨rfl, rfl, rfl, rfl⟩ | exact ⟨rfl, rfl, rfl, rfl, rfl⟩ | exact congrArg (fun z : Int => E.v (.int .i64 z)) (wrap64_id (by omega) (by omega)) | (refine ⟨rfl, ?_⟩; repeat' first | exact trivial | rfl | apply And.intro)) (memOk_box rfl rfl rfl (memOk_box rfl rfl rfl (memOk_box rfl rfl (by rw [hfl]; rfl) (memOk_row rfl rfl rfl trivial))))) ?_
    repeat' (first | refine tr_seq ?_ | refine tr_block ?_ | refine tr_skip ?_)
    refine tr_region (lex (T := tab) tOk hnt rfl ?_ (callH (us := []) [(900000, 8), (900001, 3), (900002, 9)] [] [] rfl rfl rfl rfl (hrd) (by repeat' first | exact .nil | refine .lent rfl rfl rfl ?_ | refine .data rfl ?_) (fun _ => rfl) rfl rfl hnt rfl rfl (by repeat' first | exact trivial | rfl | apply And.intro) (by repeat' first | exact trivial | rfl | apply And.intro) (lex (T := tab) tOk hnt rfl ?_ (Lex.nil _)))) ?_
    · (dsimp only [AllP]; (repeat' first | exact trivial | assumption | exact Nat.le_of_ble_eq_true rfl | apply And.intro | exact eCells_len1 _ _ ‹_› | exact eCells_isByte _ _ ‹_› | (intro hh_; have hg_ := hh_; (try simp only [condT_ff, condF_tt, notE_t, notE_f, Bool.and_eq_true, ne_eq, decide_eq_true_eq, decide_eq_false_iff_not] at hg_)) | intro _ | exact rfl | omega))
    · (dsimp only [AllP]; (repeat' first | exact trivial | assumption | exact Nat.le_of_ble_eq_true rfl | apply And.intro | exact eCells_len1 _ _ ‹_› | exact eCells_isByte _ _ ‹_› | (intro hh_; have hg_ := hh_; (try simp only [condT_ff, condF_tt, notE_t, notE_f, Bool.and_eq_true, ne_eq, decide_eq_true_eq, decide_eq_false_iff_not] at hg_)) | intro _ | exact rfl | omega))
    refine tr_le (s' := St.of [(2, .one (.e (eI d))), (3, .one (.ptr 3 0 0)), (8, .one (.ptr 8 0 0)), (9, .one (.ptr 9 0 0)), (10, .one (.clo 48 [(8, 0, 0), (3, 0, 0), (9, 0, 0)])), (11, .one (.own 42 0)), (22, .one (.e (eI n))), (23, .one (.e (eI (i : Int)))), (13, .one (.ptr 13 0 0)), (14, .one (.e (eI q2))), ((1000000 + 0), .one (.eptr fsE)), ((1000000 + 1), .one (.eptr acE))] [(8, ⟨0, .box (.es [eI ((a + q3 : Nat) : Int)]), 0⟩), (3, ⟨0, .box (.es [eBytes b]), 0⟩), (9, ⟨0, .box (.es [eB (flp d i)]), 0⟩), (42, ⟨0, .row 4 ((acc).map eVal), 0⟩), (13, ⟨0, .box (.es (eVal q1)), 0⟩)]) (le_of (ad := []) (by refine ⟨?_, ?_, ?_, ?_, ?_, ?_, ?_, ?_, ?_, ?_, ?_, ?_, trivial⟩ <;> first | exact trivial | rfl | exact ⟨rfl, rfl⟩ | exact ⟨rfl, rfl, rfl⟩ | exact ⟨rfl, rfl, rfl, rfl⟩ | exact ⟨rfl, rfl, rfl, rfl, rfl⟩ | exact congrArg (fun z : Int => E.v (.int .i64 z)) (wrap64_id (by omega) (by omega)) | (refine ⟨rfl, ?_⟩; repeat' first | exact trivial | rfl | apply And.intro)) (memOk_box rfl rfl rfl (memOk_box rfl rfl rfl (memOk_box rfl rfl rfl (memOk_row rfl rfl rfl (memOk_box rfl rfl rfl trivial)))))) ?_
    repeat' (first | refine tr_seq ?_ | refine reg (T := tab) tOk hnt rfl ?_ ?_ | refine regD (T := tab) tOk mixedR hnt rfl (by decide +kernel) ?_ ?_ | refine tr_block ?_ | refine tr_skip ?_)
    · (dsimp only [AllP]; (repeat' first | exact trivial | assumption | exact Nat.le_of_ble_eq_true rfl | apply And.intro | decide | intro _ | exact rfl))
    repeat' (first | refine tr_seq ?_ | refine tr_block ?_ | refine tr_skip ?_)
    refine tr_cond rfl (fun hc => ?_) (fun hc => ?_)
    · have hc : (!decide (q2 = 0)) = true := hc
      simp only [condT_tt, condT_ff, condF_tt, condF_ff, notE_t, notE_f, decide_eq_true_eq, decide_eq_false_iff_not] at hc
      rw [if_pos hc] at h1 h2
      have e2 : q2 = r2 := congrArg Prod.fst h1
      rw [if_pos (by rw [← e2]; exact hc), ← e2]
      repeat' (first | refine tr_seq ?_ | refine reg (T := tab) tOk hnt rfl ?_ ?_ | refine regD (T := tab) tOk mixedR hnt rfl (by decide +kernel) ?_ ?_ | refine tr_block ?_ | refine tr_skip ?_)
      · (dsimp only [AllP]; (repeat' first | exact trivial | assumption | exact Nat.le_of_ble_eq_true rfl | apply And.intro | decide | intro _ | exact rfl))
      refine tr_ret ⟨.inr rfl, _, _, rfl, by (repeat' first | exact trivial | exact Nat.le_of_ble_eq_true rfl | apply And.intro), ?_⟩
      exact rfl
    have hc : (!decide (q2 = 0)) = false := hc
    simp only [condT_tt, condT_ff, condF_tt, condF_ff, notE_t, notE_f, decide_eq_true_eq, decide_eq_false_iff_not] at hc
    rw [if_neg (not_not_intro hc)] at h1 h2
    have hq1 : ((acc.map eVal).length + [eVal q1].length) ≤ maxLen := by rw [List.length_map]; show acc.length + 1 ≤ maxLen; unfold maxLen; omega
    have hq2 : ((acc.map eVal).length + [eVal q1].length) * 40 ≤ 140737488355328 := by rw [List.length_map]; show (acc.length + 1) * 40 ≤ _; omega
    have hap : acc.map eVal ++ [eVal q1] = (acc ++ [q1]).map eVal := by rw [List.map_append]; rfl
    repeat' (first | refine tr_seq ?_ | refine tr_block ?_ | refine tr_skip ?_)
    first | refine reg (T := tab) tOk hnt rfl ?_ ?_ | refine regD (T := tab) tOk mixedR hnt rfl (by decide +kernel) ?_ ?_
    · (dsimp only [AllP]; (repeat' first | exact trivial | assumption | exact Nat.le_of_ble_eq_true rfl | apply And.intro | exact eCells_len1 _ _ ‹_› | exact eCells_isByte _ _ ‹_› | (intro hh_; have hg_ := hh_; (try simp only [condT_ff, condF_tt, notE_t, notE_f, Bool.and_eq_true, ne_eq, decide_eq_true_eq, decide_eq_false_iff_not] at hg_)) | intro _ | exact rfl | omega))
      all_goals trace_state
    repeat' (first | refine tr_seq ?_ | refine reg (T := tab) tOk hnt rfl ?_ ?_ | refine regD (T := tab) tOk mixedR hnt rfl (by decide +kernel) ?_ ?_ | refine tr_block ?_ | refine tr_skip ?_)
    · (dsimp only [AllP]; (repeat' first | exact trivial | assumption | exact Nat.le_of_ble_eq_true rfl | apply And.intro | decide | intro _ | exact rfl))
    refine ⟨(i + 1, a + q3, acc ++ [q1]), ⟨by dsimp only; rw [show n.toNat - (i + 1) = n.toNat - i - 1 by omega]; exact h1, by dsimp only; rw [show n.toNat - (i + 1) = n.toNat - i - 1 by omega]; intro hh; rw [List.append_assoc]; exact h2 hh, by dsimp only; omega, by dsimp only; omega, by dsimp only; rw [List.length_append]; show acc.length + 1 = i + 1; omega⟩, by dsimp only; omega, le_of (ad := []) (by refine ⟨?_, ?_, ?_, ?_, ?_, ?_, ?_, ?_, ?_, ?_, trivial⟩ <;> first | exact trivial | rfl | exact ⟨rfl, rfl⟩ | exact ⟨rfl, rfl, rfl⟩ | exact ⟨rfl, rfl, rfl, rfl⟩ | exact ⟨rfl, rfl, rfl, rfl, rfl⟩ | exact congrArg (fun z : Int => E.v (.int .i64 z)) (wrap64_id (by omega) (by omega)) | (refine ⟨rfl, ?_⟩; repeat' first | exact trivial | rfl | apply And.intro)) (memOk_box rfl rfl rfl (memOk_box rfl rfl rfl (memOk_box rfl rfl rfl (memOk_row rfl rfl hap trivial))))⟩
  simp only [condT_tt, condT_ff, condF_tt, condF_ff, notE_t, notE_f, decide_eq_true_eq, decide_eq_false_iff_not] at hc
  refine tr_exit ?_
  rw [show n.toNat - i = 0 by omega, dcG] at h1 h2
  have e2 : 0 = r2 := congrArg Prod.fst h1
  have e3 : a = r3 := congrArg Prod.snd h1
  have e1 : acc = r1 := by have h3 := h2 e2.symm; rwa [List.append_nil] at h3
  clear h1 h2
  subst e2
  subst e3
  subst e1
  rw [if_neg (not_not_intro rfl)]
  repeat' (first | refine tr_seq ?_ | refine reg (T := tab) tOk hnt rfl ?_ ?_ | refine regD (T := tab) tOk mixedR hnt rfl (by decide +kernel) ?_ ?_ | refine tr_block ?_ | refine tr_skip ?_)
  · (dsimp only [AllP]; (repeat' first | exact trivial | assumption | exact Nat.le_of_ble_eq_true rfl | apply And.intro | decide | intro _ | exact rfl))
  repeat' (first | refine tr_seq ?_ | refine tr_block ?_ | refine tr_skip ?_)
  refine tr_cond rfl (fun hc => ?_) (fun hc => ?_)
  · have hc : (!decide ((a : Int) = ((eCells b).length : Int))) = true := hc
    rw [hbl] at hc
    simp only [condT_tt, condT_ff, condF_tt, condF_ff, notE_t, notE_f, decide_eq_true_eq, decide_eq_false_iff_not] at hc
    rw [if_pos (show a ≠ b.length by omega)]
    repeat' (first | refine tr_seq ?_ | refine reg (T := tab) tOk hnt rfl ?_ ?_ | refine regD (T := tab) tOk mixedR hnt rfl (by decide +kernel) ?_ ?_ | refine tr_block ?_ | refine tr_skip ?_)
    · (dsimp only [AllP]; (repeat' first | exact trivial | assumption | exact Nat.le_of_ble_eq_true rfl | apply And.intro | decide | intro _ | exact rfl))
    refine tr_ret ⟨.inr rfl, _, _, rfl, by (repeat' first | exact trivial | exact Nat.le_of_ble_eq_true rfl | apply And.intro), ?_⟩
    exact rfl
  have hc : (!decide ((a : Int) = ((eCells b).length : Int))) = false := hc
  rw [hbl] at hc
  simp only [condT_tt, condT_ff, condF_tt, condF_ff, notE_t, notE_f, decide_eq_true_eq, decide_eq_false_iff_not] at hc
  rw [if_neg (show ¬ a ≠ b.length by omega)]
  repeat' (first | refine tr_seq ?_ | refine reg (T := tab) tOk hnt rfl ?_ ?_ | refine regD (T := tab) tOk mixedR hnt rfl (by decide +kernel) ?_ ?_ | refine tr_block ?_ | refine tr_skip ?_)
  · (dsimp only [AllP]; (repeat' first | exact trivial | assumption | exact Nat.le_of_ble_eq_true rfl | apply And.intro | decide | intro _ | exact rfl))
  repeat' (first | refine tr_seq ?_ | refine tr_block ?_ | refine tr_skip ?_)
  refine tr_ret ⟨.inr rfl, _, _, rfl, by (repeat' first | exact trivial | exact Nat.le_of_ble_eq_true rfl | apply And.intro), ?_⟩
  exact rfl
theorem shl8_or (x : BitVec 64) (c : UInt8) : (x <<< 8) ||| BitVec.ofNat 64 c.toNat = x * 256#64 + BitVec.ofNat 64 c.toNat := by
  have h0 : (x <<< 8) &&& BitVec.ofNat 64 c.toNat = 0#64 := by
    apply BitVec.eq_of_getLsbD_eq
    intro i hi
    rw [BitVec.getLsbD_and, BitVec.getLsbD_shiftLeft, BitVec.getLsbD_ofNat]
    by_cases h8 : i < 8
    · simp [h8]
    · have hb := c.toNat_lt
      have : Nat.testBit c.toNat i = false := Nat.testBit_lt_two_pow (Nat.lt_of_lt_of_le hb (Nat.pow_le_pow_right (by decide) (by omega)))
      simp [this]
  rw [← BitVec.add_eq_or_of_and_eq_zero _ _ h0]
  congr 1
  apply BitVec.eq_of_toNat_eq
  rw [BitVec.toNat_shiftLeft, BitVec.toNat_mul, Nat.shiftLeft_eq]
  rfl
theorem q_mul (x y : BitVec 64) : IntKind.u64.wrap ((x.toNat : Int) * (y.toNat : Int)) = ((x * y).toNat : Int) := by
  rw [q_wrap, BitVec.ofInt_mul, q_of, q_of]
theorem nmul_step (l : List UInt8) (j : Nat) (h : j < l.length) : IntKind.u64.wrap (IntKind.u64.wrap (((nmF (l.take j)).toNat : Int) * 256) + IntKind.u64.wrap ((l.getD j 0).toNat : Int)) = ((nmF (l.take (j + 1))).toNat : Int) := by
  have hts : l.take (j + 1) = l.take j ++ [l.getD j 0] := take_succ h
  have h2 : ((256#64).toNat : Int) = 256 := by decide
  rw [hts, nmF_app, shl8_or, q_byte, ← h2, q_mul]
  exact q_add _ _
set_option maxRecDepth 10000 in
set_option maxHeartbeats 2000000 in
theorem number_fn (s : List UInt8) (hs : s.length ≤ maxLen) : FnD Tryd.prog 60 [.one (.e (eT s))] (.one (.e (eQ (nmF s)))) := by
  refine fn_intro (T := tab) tOk Tryd.func60 rfl (by kernel_rfl) (by simp [Tryd.ntmps60]) ?_
  intro X hX
  have hnt : X.nt = 19 := hX
  clear hX
  have hl : (strB s).size = s.length := strB_size s
  unfold maxLen at hs
  repeat' (first | refine tr_seq ?_ | refine reg (T := tab) tOk hnt rfl ?_ ?_ | refine regD (T := tab) tOk mixedR hnt rfl (by decide +kernel) ?_ ?_ | refine tr_block ?_ | refine tr_skip ?_)
  · (dsimp only [AllP]; (repeat' first | exact trivial | assumption | exact Nat.le_of_ble_eq_true rfl | apply And.intro | decide | intro _ | exact rfl))
  · (dsimp only [AllP]; (repeat' first | exact trivial | assumption | exact Nat.le_of_ble_eq_true rfl | apply And.intro | decide | intro _ | exact rfl))
  · (dsimp only [AllP]; (repeat' first | exact trivial | assumption | exact Nat.le_of_ble_eq_true rfl | apply And.intro | decide | intro _ | exact rfl))
  repeat' (first | refine tr_seq ?_ | refine tr_block ?_ | refine tr_skip ?_)
  refine tr_loop (σ := Nat) (fun j => St.of [(0, .one (.e (eT s))), (3, .one (.e (eQ (nmF (s.take j))))), (4, .one (.e (eI (j : Int))))] []) (fun j => j ≤ s.length) (fun j => s.length - j) (0) (le_of (ad := []) (by refine ⟨?_, ?_, ?_, trivial⟩ <;> first | exact trivial | rfl | exact ⟨rfl, rfl⟩ | exact ⟨rfl, rfl, rfl⟩ | exact ⟨rfl, rfl, rfl, rfl⟩ | exact ⟨rfl, rfl, rfl, rfl, rfl⟩ | exact congrArg (fun z : Int => E.v (.int .i64 z)) (wrap64_id (by omega) (by omega)) | (refine ⟨rfl, ?_⟩; repeat' first | exact trivial | rfl | apply And.intro)) trivial) (Nat.zero_le _) ?_
  rintro j jl
  repeat' (first | refine tr_seq ?_ | refine reg (T := tab) tOk hnt rfl ?_ ?_ | refine regD (T := tab) tOk mixedR hnt rfl (by decide +kernel) ?_ ?_ | refine tr_block ?_ | refine tr_skip ?_)
  · (dsimp only [AllP]; (repeat' first | exact trivial | assumption | exact Nat.le_of_ble_eq_true rfl | apply And.intro | decide | intro _ | exact rfl))
  repeat' (first | refine tr_seq ?_ | refine tr_block ?_ | refine tr_skip ?_)
  refine tr_cond rfl (fun hc => ?_) (fun hc => ?_)
  · simp only [condT_tt, condT_ff, condF_tt, condF_ff, notE_t, notE_f, decide_eq_true_eq, decide_eq_false_iff_not] at hc
    (try simp only [hl] at hc)
    (try simp only [condT_tt, condT_ff, condF_tt, condF_ff, notE_t, notE_f, decide_eq_true_eq, decide_eq_false_iff_not] at hc)
    have hlt : j < s.length := by omega
    have hst := nmul_step s j hlt
    repeat' (first | refine tr_seq ?_ | refine tr_block ?_ | refine tr_skip ?_)
    first | refine reg (T := tab) tOk hnt rfl ?_ ?_ | refine regD (T := tab) tOk mixedR hnt rfl (by decide +kernel) ?_ ?_
    · (dsimp only [AllP]; (repeat' first | exact trivial | assumption | exact Nat.le_of_ble_eq_true rfl | apply And.intro | exact eCells_len1 _ _ ‹_› | exact eCells_isByte _ _ ‹_› | (intro hh_; have hg_ := hh_; (try simp only [condT_ff, condF_tt, notE_t, notE_f, Bool.and_eq_true, ne_eq, decide_eq_true_eq, decide_eq_false_iff_not] at hg_)) | intro _ | exact rfl | omega))
      all_goals trace_state
    have gx : (strB s).data.toList.getD (Int.toNat (j : Int)) 0 = s.getD j 0 := rfl
    rw [gx, hst]
    repeat' (first | refine tr_seq ?_ | refine reg (T := tab) tOk hnt rfl ?_ ?_ | refine regD (T := tab) tOk mixedR hnt rfl (by decide +kernel) ?_ ?_ | refine tr_block ?_ | refine tr_skip ?_)
    · (dsimp only [AllP]; (repeat' first | exact trivial | assumption | exact Nat.le_of_ble_eq_true rfl | apply And.intro | decide | intro _ | exact rfl))
    refine ⟨j + 1, (by omega), by omega, le_of (ad := []) (by refine ⟨?_, ?_, ?_, trivial⟩ <;> first | exact trivial | rfl | exact ⟨rfl, rfl⟩ | exact ⟨rfl, rfl, rfl⟩ | exact ⟨rfl, rfl, rfl, rfl⟩ | exact ⟨rfl, rfl, rfl, rfl, rfl⟩ | exact congrArg (fun z : Int => E.v (.int .i64 z)) (wrap64_id (by omega) (by omega)) | (refine ⟨rfl, ?_⟩; repeat' first | exact trivial | rfl | apply And.intro)) trivial⟩
  simp only [condT_tt, condT_ff, condF_tt, condF_ff, notE_t, notE_f, decide_eq_true_eq, decide_eq_false_iff_not] at hc
  (try simp only [hl] at hc)
  (try simp only [condT_tt, condT_ff, condF_tt, condF_ff, notE_t, notE_f, decide_eq_true_eq, decide_eq_false_iff_not] at hc)
  refine tr_exit ?_
  rw [List.take_of_length_le (by omega)]
  repeat' (first | refine tr_seq ?_ | refine reg (T := tab) tOk hnt rfl ?_ ?_ | refine regD (T := tab) tOk mixedR hnt rfl (by decide +kernel) ?_ ?_ | refine tr_block ?_ | refine tr_skip ?_)
  · (dsimp only [AllP]; (repeat' first | exact trivial | assumption | exact Nat.le_of_ble_eq_true rfl | apply And.intro | decide | intro _ | exact rfl))
  repeat' (first | refine tr_seq ?_ | refine tr_block ?_ | refine tr_skip ?_)
  exact tr_ret ⟨.inr rfl, _, _, rfl, trivial, rfl⟩
end Go.Proofs.YtcjeeoimjkhijaaDoor
namespace Go.Proofs.YtcjeeoimjkhijaaDoor
open Go Go.RowKit Go.Proofs.YtcjeeoimjkhijaaDoor.Ab
set_option linter.unusedSimpArgs false
set_option linter.unusedVariables false

def rW (q : Val × Int × Int) : D := .tup [(true, .es (eVal q.1)), (false, .es [eI q.2.1]), (false, .es [eI q.2.2])]
def txV (q : List UInt8 × Int × Nat) : Val × Int × Int := if q.2.1 = 0 then (⟨4, 0, 0#64, q.1⟩, ((q.2.2 + 1 : Nat) : Int), 0) else (val0, 0, q.2.1)
theorem strB_cat (l r : List UInt8) : strB l ++ strB r = strB (l ++ r) := by
  unfold strB
  apply ByteArray.ext
  simp
theorem sl_one {s : Byt} {i : Nat} (h : i < s.length) (k : Int) (hk : k = ((i + 1 : Nat) : Int)) : (strB s).extract (Int.toNat (i : Int)) (Int.toNat k) = strB [s.getD i 0] := by
  subst hk
  rw [strB_extract, Int.toNat_natCast, Int.toNat_natCast, List.drop_take, drop_getD (d := 0) h, show i + 1 - i = 1 by omega]
  rfl
set_option maxRecDepth 10000 in
set_option maxHeartbeats 2000000 in
theorem textOf_fn (s : Byt) (hs : s.length + 1 ≤ maxLen) : FnG Tryd.prog 83 gK [.one (.e (eT s))] (rW (txV (txF [] s))) := by
  refine fn_introG (T := tab) tOk Tryd.func83 rfl (by kernel_rfl) (by simp [Tryd.ntmps83]) ?_
  intro X hX
  have hnt : X.nt = 52 := hX
  clear hX
  have hl : (strB s).size = s.length := strB_size s
  have hs' : s.length + 1 ≤ 9223372036854775807 := hs
  generalize hT : txF [] s = T
  obtain ⟨t1, t2, t3⟩ := T
  repeat' (first | refine tr_seq ?_ | refine reg (T := tab) tOk hnt rfl ?_ ?_ | refine regD (T := tab) tOk mixedR hnt rfl (by decide +kernel) ?_ ?_ | refine tr_block ?_ | refine tr_skip ?_)
  · (dsimp only [AllP]; (repeat' first | exact trivial | assumption | exact Nat.le_of_ble_eq_true rfl | apply And.intro | decide | intro _ | exact rfl))
  · (dsimp only [AllP]; (repeat' first | exact trivial | assumption | exact Nat.le_of_ble_eq_true rfl | apply And.intro | decide | intro _ | exact rfl))
  · (dsimp only [AllP]; (repeat' first | exact trivial | assumption | exact Nat.le_of_ble_eq_true rfl | apply And.intro | decide | intro _ | exact rfl))
  repeat' (first | refine tr_seq ?_ | refine tr_block ?_ | refine tr_skip ?_)
  refine tr_loop (σ := Nat × Byt) (fun y => St.of [(0, .one (.e (eT s))), (2, .one (.ptr 2 0 0)), (5, .one (.e (eT y.2))), (6, .one (.e (eI (y.1 : Int)))), ((1000000 + 0), .one (.eptr fsE)), ((1000000 + 1), .one (.eptr acE))] [(2, ⟨0, .box (.es (eVal val0)), 0⟩)]) (fun y => ((txF y.2 (s.drop y.1)).1 = t1 ∧ (txF y.2 (s.drop y.1)).2.1 = t2 ∧ y.1 + (txF y.2 (s.drop y.1)).2.2 = t3) ∧ y.1 ≤ s.length ∧ y.2.length ≤ 40) (fun y => s.length - y.1) ((0, [])) (le_of (ad := []) (by refine ⟨?_, ?_, ?_, ?_, ?_, ?_, trivial⟩ <;> first | exact trivial | rfl | exact ⟨rfl, rfl⟩ | exact ⟨rfl, rfl, rfl⟩ | exact ⟨rfl, rfl, rfl, rfl⟩ | exact ⟨rfl, rfl, rfl, rfl, rfl⟩ | exact congrArg (fun z : Int => E.v (.int .i64 z)) (wrap64_id (by omega) (by omega)) | (refine ⟨rfl, ?_⟩; repeat' first | exact trivial | rfl | apply And.intro)) (memOk_box rfl rfl rfl trivial)) ⟨⟨by rw [List.drop_zero, hT], by rw [List.drop_zero, hT], by rw [List.drop_zero, hT, Nat.zero_add]⟩, Nat.zero_le _, Nat.zero_le _⟩ ?_
  rintro ⟨i, acc⟩ ⟨⟨q1, q2, q3⟩, il, hal⟩
  dsimp only at q1 q2 q3 il hal ⊢
  repeat' (first | refine tr_seq ?_ | refine reg (T := tab) tOk hnt rfl ?_ ?_ | refine regD (T := tab) tOk mixedR hnt rfl (by decide +kernel) ?_ ?_ | refine tr_block ?_ | refine tr_skip ?_)
  · (dsimp only [AllP]; (repeat' first | exact trivial | assumption | exact Nat.le_of_ble_eq_true rfl | apply And.intro | decide | intro _ | exact rfl))
  repeat' (first | refine tr_seq ?_ | refine tr_block ?_ | refine tr_skip ?_)
  refine tr_cond rfl (fun hc => ?_) (fun hc => ?_)
  · simp only [condT_tt, condT_ff, condF_tt, condF_ff, notE_t, notE_f, decide_eq_true_eq, decide_eq_false_iff_not] at hc
    (try simp only [hl] at hc)
    (try simp only [condT_tt, condT_ff, condF_tt, condF_ff, notE_t, notE_f, decide_eq_true_eq, decide_eq_false_iff_not] at hc)
    have hlt : i < s.length := by omega
    have h64 : IntKind.i64.wrap ((i : Int) + 1) = ((i + 1 : Nat) : Int) := wrap64_id (by omega) (by omega)
    have hdr : s.drop i = s.getD i 0 :: s.drop (i + 1) := drop_getD hlt
    repeat' (first | refine tr_seq ?_ | refine tr_block ?_ | refine tr_skip ?_)
    first | refine reg (T := tab) tOk hnt rfl ?_ ?_ | refine regD (T := tab) tOk mixedR hnt rfl (by decide +kernel) ?_ ?_
    · rw [h64, hl]
      (dsimp only [AllP]; (repeat' first | exact trivial | assumption | exact Nat.le_of_ble_eq_true rfl | apply And.intro | exact eCells_len1 _ _ ‹_› | exact eCells_isByte _ _ ‹_› | (intro hh_; have hg_ := hh_; (try simp only [condT_ff, condF_tt, notE_t, notE_f, Bool.and_eq_true, ne_eq, decide_eq_true_eq, decide_eq_false_iff_not] at hg_)) | intro _ | exact rfl | omega))
    rw [h64, sl_one hlt _ rfl]
    rw [hdr] at q1 q2 q3
    generalize s.getD i 0 = c at *
    repeat' (first | refine tr_seq ?_ | refine reg (T := tab) tOk hnt rfl ?_ ?_ | refine regD (T := tab) tOk mixedR hnt rfl (by decide +kernel) ?_ ?_ | refine tr_block ?_ | refine tr_skip ?_)
    · (dsimp only [AllP]; (repeat' first | exact trivial | assumption | exact Nat.le_of_ble_eq_true rfl | apply And.intro | decide | intro _ | exact rfl))
    repeat' (first | refine tr_seq ?_ | refine tr_block ?_ | refine tr_skip ?_)
    refine tr_cond rfl (fun hc => ?_) (fun hc => ?_)
    · have hc0 : c = 0 := by
        have h1 : strEq (strB [c]) (strB [0]) = true := hc
        rw [strEq_B] at h1
        have h2 := of_decide_eq_true h1
        cases h2
        rfl
      subst hc0
      repeat' (first | refine tr_seq ?_ | refine reg (T := tab) tOk hnt rfl ?_ ?_ | refine regD (T := tab) tOk mixedR hnt rfl (by decide +kernel) ?_ ?_ | refine tr_block ?_ | refine tr_skip ?_)
      · (dsimp only [AllP]; (repeat' first | exact trivial | assumption | exact Nat.le_of_ble_eq_true rfl | apply And.intro | decide | intro _ | exact rfl))
      · (dsimp only [AllP]; (repeat' first | exact trivial | assumption | exact Nat.le_of_ble_eq_true rfl | apply And.intro | decide | intro _ | exact rfl))
      rw [h64]
      repeat' (first | refine tr_seq ?_ | refine tr_block ?_ | refine tr_skip ?_)
      refine tr_cond rfl (fun hc => ?_) (fun hc => ?_)
      · simp only [condT_tt, condT_ff, condF_tt, condF_ff, notE_t, notE_f, decide_eq_true_eq, decide_eq_false_iff_not] at hc
        (try simp only [hl] at hc)
        (try simp only [condT_tt, condT_ff, condF_tt, condF_ff, notE_t, notE_f, decide_eq_true_eq, decide_eq_false_iff_not] at hc)
        have hnil : s.drop (i + 1) = [] := List.drop_eq_nil_of_le (by omega)
        rw [hnil, txF_z0] at q1 q2 q3
        dsimp only at q1 q2 q3
        subst q1 q2 q3
        refine tr_exit ?_
        repeat' (first | refine tr_seq ?_ | refine reg (T := tab) tOk hnt rfl ?_ ?_ | refine regD (T := tab) tOk mixedR hnt rfl (by decide +kernel) ?_ ?_ | refine tr_block ?_ | refine tr_skip ?_)
        · (dsimp only [AllP]; (repeat' first | exact trivial | assumption | exact Nat.le_of_ble_eq_true rfl | apply And.intro | decide | intro _ | exact rfl))
        refine tr_ret ⟨.inr rfl, _, _, rfl, by (repeat' first | exact trivial | exact Nat.le_of_ble_eq_true rfl | apply And.intro), ?_⟩
        exact rfl
      simp only [condT_tt, condT_ff, condF_tt, condF_ff, notE_t, notE_f, decide_eq_true_eq, decide_eq_false_iff_not] at hc
      (try simp only [hl] at hc)
      (try simp only [condT_tt, condT_ff, condF_tt, condF_ff, notE_t, notE_f, decide_eq_true_eq, decide_eq_false_iff_not] at hc)
      have hlt2 : i + 1 < s.length := by omega
      have hdr2 : s.drop (i + 1) = s.getD (i + 1) 0 :: s.drop (i + 1 + 1) := drop_getD hlt2
      rw [hdr2, txF_zd] at q1 q2 q3
      repeat' (first | refine tr_seq ?_ | refine tr_block ?_ | refine tr_skip ?_)
      first | refine reg (T := tab) tOk hnt rfl ?_ ?_ | refine regD (T := tab) tOk mixedR hnt rfl (by decide +kernel) ?_ ?_
      · rw [hl]
        (dsimp only [AllP]; (repeat' first | exact trivial | assumption | exact Nat.le_of_ble_eq_true rfl | apply And.intro | exact eCells_len1 _ _ ‹_› | exact eCells_isByte _ _ ‹_› | (intro hh_; have hg_ := hh_; (try simp only [condT_ff, condF_tt, notE_t, notE_f, Bool.and_eq_true, ne_eq, decide_eq_true_eq, decide_eq_false_iff_not] at hg_)) | intro _ | exact rfl | omega))
      have gx : (strB s).data.toList.getD (Int.toNat ((i + 1 : Nat) : Int)) 0 = s.getD (i + 1) 0 := rfl
      rw [gx]
      obtain ⟨d, hgd⟩ : ∃ d, s.getD (i + 1) 0 = d := ⟨_, rfl⟩
      rw [hgd] at q1 q2 q3 ⊢
      have gx : (strB s).data.toList.getD (Int.toNat ((i + 1 : Nat) : Int)) 0 = d := hgd
      repeat' (first | refine tr_seq ?_ | refine tr_block ?_ | refine tr_skip ?_)
      refine tr_cond rfl (fun hc => ?_) (fun hc => ?_)
      · simp only [condT_tt, condT_ff, condF_tt, condF_ff, notE_t, notE_f, decide_eq_true_eq, decide_eq_false_iff_not] at hc
        have hd1 : d = 1 := UInt8.toNat_inj.1 (by show d.toNat = 1; omega)
        rw [if_pos hd1] at q1 q2 q3
        repeat' (first | refine tr_seq ?_ | refine tr_block ?_ | refine tr_skip ?_)
        refine tr_region (lex (T := tab) tOk hnt rfl ?_ (callV rfl rfl rfl rfl rfl rfl rfl hnt rfl (valid_fn acc) (lex (T := tab) tOk hnt rfl ?_ (Lex.nil _)))) ?_
        · (dsimp only [AllP]; (repeat' first | exact trivial | assumption | exact Nat.le_of_ble_eq_true rfl | apply And.intro | decide | intro _ | exact rfl))
        · (dsimp only [AllP]; (repeat' first | exact trivial | assumption | exact Nat.le_of_ble_eq_true rfl | apply And.intro | decide | intro _ | exact rfl))
        repeat' (first | refine tr_seq ?_ | refine tr_block ?_ | refine tr_skip ?_)
        refine tr_cond rfl (fun hc => ?_) (fun hc => ?_)
        · simp only [condT_tt, condT_ff, condF_tt, condF_ff, notE_t, notE_f, decide_eq_true_eq, decide_eq_false_iff_not] at hc
          rw [if_neg (by rw [hc]; exact Bool.false_ne_true)] at q1 q2 q3
          subst q1 q2 q3
          repeat' (first | refine tr_seq ?_ | refine reg (T := tab) tOk hnt rfl ?_ ?_ | refine regD (T := tab) tOk mixedR hnt rfl (by decide +kernel) ?_ ?_ | refine tr_block ?_ | refine tr_skip ?_)
          · (dsimp only [AllP]; (repeat' first | exact trivial | assumption | exact Nat.le_of_ble_eq_true rfl | apply And.intro | decide | intro _ | exact rfl))
          refine tr_ret ⟨.inr rfl, _, _, rfl, by (repeat' first | exact trivial | exact Nat.le_of_ble_eq_true rfl | apply And.intro), ?_⟩
          exact rfl
        simp only [condT_tt, condT_ff, condF_tt, condF_ff, notE_t, notE_f, decide_eq_true_eq, decide_eq_false_iff_not] at hc
        rw [if_pos hc] at q1 q2 q3
        dsimp only at q1 q2 q3
        subst q1 q2 q3
        have h66 : IntKind.i64.wrap (((i + 1 : Nat) : Int) + 2) = ((i + 2 + 1 : Nat) : Int) := wrap64_id (by omega) (by omega)
        repeat' (first | refine tr_seq ?_ | refine reg (T := tab) tOk hnt rfl ?_ ?_ | refine regD (T := tab) tOk mixedR hnt rfl (by decide +kernel) ?_ ?_ | refine tr_block ?_ | refine tr_skip ?_)
        · (dsimp only [AllP]; (repeat' first | exact trivial | assumption | exact Nat.le_of_ble_eq_true rfl | apply And.intro | decide | intro _ | exact rfl))
        refine tr_ret ⟨.inr rfl, _, _, rfl, by (repeat' first | exact trivial | exact Nat.le_of_ble_eq_true rfl | apply And.intro), ?_⟩
        rw [h66]
        exact rfl
      simp only [condT_tt, condT_ff, condF_tt, condF_ff, notE_t, notE_f, decide_eq_true_eq, decide_eq_false_iff_not] at hc
      have hd1 : d ≠ 1 := fun e => by subst e; exact hc rfl
      rw [if_neg hd1] at q1 q2 q3
      repeat' (first | refine tr_seq ?_ | refine tr_block ?_ | refine tr_skip ?_)
      first | refine reg (T := tab) tOk hnt rfl ?_ ?_ | refine regD (T := tab) tOk mixedR hnt rfl (by decide +kernel) ?_ ?_
      · rw [hl]
        (dsimp only [AllP]; (repeat' first | exact trivial | assumption | exact Nat.le_of_ble_eq_true rfl | apply And.intro | exact eCells_len1 _ _ ‹_› | exact eCells_isByte _ _ ‹_› | (intro hh_; have hg_ := hh_; (try simp only [condT_ff, condF_tt, notE_t, notE_f, Bool.and_eq_true, ne_eq, decide_eq_true_eq, decide_eq_false_iff_not] at hg_)) | intro _ | exact rfl | omega))
      rw [gx]
      repeat' (first | refine tr_seq ?_ | refine tr_block ?_ | refine tr_skip ?_)
      refine tr_cond rfl (fun hc => ?_) (fun hc => ?_)
      · simp only [condT_tt, condT_ff, condF_tt, condF_ff, notE_t, notE_f, decide_eq_true_eq, decide_eq_false_iff_not] at hc
        have hd2 : d ≠ 255 := fun e => by subst e; exact hc rfl
        rw [if_pos hd2] at q1 q2 q3
        dsimp only at q1 q2 q3
        subst q1 q2 q3
        repeat' (first | refine tr_seq ?_ | refine reg (T := tab) tOk hnt rfl ?_ ?_ | refine regD (T := tab) tOk mixedR hnt rfl (by decide +kernel) ?_ ?_ | refine tr_block ?_ | refine tr_skip ?_)
        · (dsimp only [AllP]; (repeat' first | exact trivial | assumption | exact Nat.le_of_ble_eq_true rfl | apply And.intro | decide | intro _ | exact rfl))
        refine tr_ret ⟨.inr rfl, _, _, rfl, by (repeat' first | exact trivial | exact Nat.le_of_ble_eq_true rfl | apply And.intro), ?_⟩
        exact rfl
      simp only [condT_tt, condT_ff, condF_tt, condF_ff, notE_t, notE_f, decide_eq_true_eq, decide_eq_false_iff_not] at hc
      have hd2 : d = 255 := UInt8.toNat_inj.1 (by show d.toNat = 255; omega)
      rw [if_neg (not_not_intro hd2)] at q1 q2 q3
      have hsz : (strB acc).size + (strB [0]).size ≤ maxLen := by rw [strB_size, strB_size]; show acc.length + 1 ≤ maxLen; unfold maxLen; omega
      repeat' (first | refine tr_seq ?_ | refine tr_block ?_ | refine tr_skip ?_)
      first | refine reg (T := tab) tOk hnt rfl ?_ ?_ | refine regD (T := tab) tOk mixedR hnt rfl (by decide +kernel) ?_ ?_
      · (dsimp only [AllP]; (repeat' first | exact trivial | assumption | exact Nat.le_of_ble_eq_true rfl | apply And.intro | exact eCells_len1 _ _ ‹_› | exact eCells_isByte _ _ ‹_› | (intro hh_; have hg_ := hh_; (try simp only [condT_ff, condF_tt, notE_t, notE_f, Bool.and_eq_true, ne_eq, decide_eq_true_eq, decide_eq_false_iff_not] at hg_)) | intro _ | exact rfl | omega))
      rw [strB_cat]
      have hal2 : (strB (acc ++ [0])).size = acc.length + 1 := by rw [strB_size, List.length_append]; rfl
      repeat' (first | refine tr_seq ?_ | refine reg (T := tab) tOk hnt rfl ?_ ?_ | refine regD (T := tab) tOk mixedR hnt rfl (by decide +kernel) ?_ ?_ | refine tr_block ?_ | refine tr_skip ?_)
      · (dsimp only [AllP]; (repeat' first | exact trivial | assumption | exact Nat.le_of_ble_eq_true rfl | apply And.intro | decide | intro _ | exact rfl))
      repeat' (first | refine tr_seq ?_ | refine tr_block ?_ | refine tr_skip ?_)
      refine tr_cond rfl (fun hc => ?_) (fun hc => ?_)
      · simp only [condT_tt, condT_ff, condF_tt, condF_ff, notE_t, notE_f, decide_eq_true_eq, decide_eq_false_iff_not] at hc
        (try simp only [hal2] at hc)
        (try simp only [condT_tt, condT_ff, condF_tt, condF_ff, notE_t, notE_f, decide_eq_true_eq, decide_eq_false_iff_not] at hc)
        have h40 : acc.length = 40 := by omega
        rw [if_pos h40] at q1 q2 q3
        dsimp only at q1 q2 q3
        subst q1 q2 q3
        repeat' (first | refine tr_seq ?_ | refine reg (T := tab) tOk hnt rfl ?_ ?_ | refine regD (T := tab) tOk mixedR hnt rfl (by decide +kernel) ?_ ?_ | refine tr_block ?_ | refine tr_skip ?_)
        · (dsimp only [AllP]; (repeat' first | exact trivial | assumption | exact Nat.le_of_ble_eq_true rfl | apply And.intro | decide | intro _ | exact rfl))
        refine tr_ret ⟨.inr rfl, _, _, rfl, by (repeat' first | exact trivial | exact Nat.le_of_ble_eq_true rfl | apply And.intro), ?_⟩
        exact rfl
      simp only [condT_tt, condT_ff, condF_tt, condF_ff, notE_t, notE_f, decide_eq_true_eq, decide_eq_false_iff_not] at hc
      (try simp only [hal2] at hc)
      (try simp only [condT_tt, condT_ff, condF_tt, condF_ff, notE_t, notE_f, decide_eq_true_eq, decide_eq_false_iff_not] at hc)
      have h40 : ¬ acc.length = 40 := by omega
      rw [if_neg h40] at q1 q2 q3
      dsimp only at q1 q2 q3
      have h67 : IntKind.i64.wrap (((i + 1 : Nat) : Int) + 1) = ((i + 1 + 1 : Nat) : Int) := wrap64_id (by omega) (by omega)
      repeat' (first | refine tr_seq ?_ | refine reg (T := tab) tOk hnt rfl ?_ ?_ | refine regD (T := tab) tOk mixedR hnt rfl (by decide +kernel) ?_ ?_ | refine tr_block ?_ | refine tr_skip ?_)
      · (dsimp only [AllP]; (repeat' first | exact trivial | assumption | exact Nat.le_of_ble_eq_true rfl | apply And.intro | decide | intro _ | exact rfl))
      rw [h67]
      refine ⟨(i + 1 + 1, acc ++ [0]), ⟨⟨q1, q2, by dsimp only; omega⟩, by dsimp only; omega, by dsimp only; rw [List.length_append]; show acc.length + 1 ≤ 40; omega⟩, by dsimp only; omega, le_of (ad := []) (by refine ⟨?_, ?_, ?_, ?_, ?_, ?_, trivial⟩ <;> first | exact trivial | rfl | exact ⟨rfl, rfl⟩ | exact ⟨rfl, rfl, rfl⟩ | exact ⟨rfl, rfl, rfl, rfl⟩ | exact ⟨rfl, rfl, rfl, rfl, rfl⟩ | exact congrArg (fun z : Int => E.v (.int .i64 z)) (wrap64_id (by omega) (by omega)) | (refine ⟨rfl, ?_⟩; repeat' first | exact trivial | rfl | apply And.intro)) (memOk_box rfl rfl rfl trivial)⟩
    have hc0 : c ≠ 0 := by
      have h1 : strEq (strB [c]) (strB [0]) = false := hc
      rw [strEq_B] at h1
      have h2 := of_decide_eq_false h1
      exact fun e => h2 (by rw [e])
    rw [txF_ne acc _ hc0] at q1 q2 q3
    have hsz : (strB acc).size + (strB [c]).size ≤ maxLen := by rw [strB_size, strB_size]; show acc.length + 1 ≤ maxLen; unfold maxLen; omega
    repeat' (first | refine tr_seq ?_ | refine tr_block ?_ | refine tr_skip ?_)
    repeat' (first | refine tr_seq ?_ | refine tr_block ?_ | refine tr_skip ?_)
    first | refine reg (T := tab) tOk hnt rfl ?_ ?_ | refine regD (T := tab) tOk mixedR hnt rfl (by decide +kernel) ?_ ?_
    · (dsimp only [AllP]; (repeat' first | exact trivial | assumption | exact Nat.le_of_ble_eq_true rfl | apply And.intro | exact eCells_len1 _ _ ‹_› | exact eCells_isByte _ _ ‹_› | (intro hh_; have hg_ := hh_; (try simp only [condT_ff, condF_tt, notE_t, notE_f, Bool.and_eq_true, ne_eq, decide_eq_true_eq, decide_eq_false_iff_not] at hg_)) | intro _ | exact rfl | omega))
    rw [strB_cat]
    have hal2 : (strB (acc ++ [c])).size = acc.length + 1 := by rw [strB_size, List.length_append]; rfl
    repeat' (first | refine tr_seq ?_ | refine reg (T := tab) tOk hnt rfl ?_ ?_ | refine regD (T := tab) tOk mixedR hnt rfl (by decide +kernel) ?_ ?_ | refine tr_block ?_ | refine tr_skip ?_)
    · (dsimp only [AllP]; (repeat' first | exact trivial | assumption | exact Nat.le_of_ble_eq_true rfl | apply And.intro | decide | intro _ | exact rfl))
    repeat' (first | refine tr_seq ?_ | refine tr_block ?_ | refine tr_skip ?_)
    refine tr_cond rfl (fun hc => ?_) (fun hc => ?_)
    · simp only [condT_tt, condT_ff, condF_tt, condF_ff, notE_t, notE_f, decide_eq_true_eq, decide_eq_false_iff_not] at hc
      (try simp only [hal2] at hc)
      (try simp only [condT_tt, condT_ff, condF_tt, condF_ff, notE_t, notE_f, decide_eq_true_eq, decide_eq_false_iff_not] at hc)
      have h40 : acc.length = 40 := by omega
      rw [if_pos h40] at q1 q2 q3
      dsimp only at q1 q2 q3
      subst q1 q2 q3
      repeat' (first | refine tr_seq ?_ | refine reg (T := tab) tOk hnt rfl ?_ ?_ | refine regD (T := tab) tOk mixedR hnt rfl (by decide +kernel) ?_ ?_ | refine tr_block ?_ | refine tr_skip ?_)
      · (dsimp only [AllP]; (repeat' first | exact trivial | assumption | exact Nat.le_of_ble_eq_true rfl | apply And.intro | decide | intro _ | exact rfl))
      refine tr_ret ⟨.inr rfl, _, _, rfl, by (repeat' first | exact trivial | exact Nat.le_of_ble_eq_true rfl | apply And.intro), ?_⟩
      exact rfl
    simp only [condT_tt, condT_ff, condF_tt, condF_ff, notE_t, notE_f, decide_eq_true_eq, decide_eq_false_iff_not] at hc
    (try simp only [hal2] at hc)
    (try simp only [condT_tt, condT_ff, condF_tt, condF_ff, notE_t, notE_f, decide_eq_true_eq, decide_eq_false_iff_not] at hc)
    have h40 : ¬ acc.length = 40 := by omega
    rw [if_neg h40] at q1 q2 q3
    dsimp only at q1 q2 q3
    repeat' (first | refine tr_seq ?_ | refine reg (T := tab) tOk hnt rfl ?_ ?_ | refine regD (T := tab) tOk mixedR hnt rfl (by decide +kernel) ?_ ?_ | refine tr_block ?_ | refine tr_skip ?_)
    · (dsimp only [AllP]; (repeat' first | exact trivial | assumption | exact Nat.le_of_ble_eq_true rfl | apply And.intro | decide | intro _ | exact rfl))
    rw [h64]
    refine ⟨(i + 1, acc ++ [c]), ⟨⟨q1, q2, by dsimp only; omega⟩, by dsimp only; omega, by dsimp only; rw [List.length_append]; show acc.length + 1 ≤ 40; omega⟩, by dsimp only; omega, le_of (ad := []) (by refine ⟨?_, ?_, ?_, ?_, ?_, ?_, trivial⟩ <;> first | exact trivial | rfl | exact ⟨rfl, rfl⟩ | exact ⟨rfl, rfl, rfl⟩ | exact ⟨rfl, rfl, rfl, rfl⟩ | exact ⟨rfl, rfl, rfl, rfl, rfl⟩ | exact congrArg (fun z : Int => E.v (.int .i64 z)) (wrap64_id (by omega) (by omega)) | (refine ⟨rfl, ?_⟩; repeat' first | exact trivial | rfl | apply And.intro)) (memOk_box rfl rfl rfl trivial)⟩
  simp only [condT_tt, condT_ff, condF_tt, condF_ff, notE_t, notE_f, decide_eq_true_eq, decide_eq_false_iff_not] at hc
  (try simp only [hl] at hc)
  (try simp only [condT_tt, condT_ff, condF_tt, condF_ff, notE_t, notE_f, decide_eq_true_eq, decide_eq_false_iff_not] at hc)
  have hnil : s.drop i = [] := List.drop_eq_nil_of_le (by omega)
  rw [hnil, txF] at q1 q2 q3
  dsimp only at q1 q2 q3
  subst q1 q2 q3
  refine tr_exit ?_
  repeat' (first | refine tr_seq ?_ | refine reg (T := tab) tOk hnt rfl ?_ ?_ | refine regD (T := tab) tOk mixedR hnt rfl (by decide +kernel) ?_ ?_ | refine tr_block ?_ | refine tr_skip ?_)
  · (dsimp only [AllP]; (repeat' first | exact trivial | assumption | exact Nat.le_of_ble_eq_true rfl | apply And.intro | decide | intro _ | exact rfl))
  refine tr_ret ⟨.inr rfl, _, _, rfl, by (repeat' first | exact trivial | exact Nat.le_of_ble_eq_true rfl | apply And.intro), ?_⟩
  exact rfl
end Go.Proofs.YtcjeeoimjkhijaaDoor
namespace Go.Proofs.YtcjeeoimjkhijaaDoor
open Go Go.RowKit Go.Proofs.YtcjeeoimjkhijaaDoor.Ab
set_option linter.unusedSimpArgs false
set_option linter.unusedVariables false

def rdV (q : Val × Int × Nat) : Val × Int × Int := if q.2.1 = 0 then (q.1, (q.2.2 : Int), 0) else (val0, 0, q.2.1)
theorem txF_ok : ∀ (n : Nat) (acc s : List UInt8), s.length ≤ n → acc.length ≤ 40 → (txF acc s).2.1 = 0 → vld (txF acc s).1 = true ∧ (txF acc s).1.length ≤ 40
  | _, acc, [], _, _, h => by rw [txF] at h; exact absurd h (by decide)
  | 0, acc, c :: r, h, _, _ => absurd h (by simp)
  | n + 1, acc, c :: r, h, ha, h0 => by
    rw [List.length_cons] at h
    by_cases hc : c = 0
    · subst hc
      cases r with
      | nil => rw [txF_z0] at h0; exact absurd h0 (show ¬ (4 : Int) = 0 by decide)
      | cons d r =>
        rw [List.length_cons] at h
        rw [txF_zd] at h0 ⊢
        by_cases h1 : d = 1
        · rw [if_pos h1] at h0 ⊢
          by_cases hv : vld acc = true
          · rw [if_pos hv]
            exact ⟨hv, ha⟩
          · rw [if_neg hv] at h0
            exact absurd h0 (show ¬ (3 : Int) = 0 by decide)
        · rw [if_neg h1] at h0 ⊢
          by_cases h2 : d ≠ 255
          · rw [if_pos h2] at h0
            exact absurd h0 (show ¬ (3 : Int) = 0 by decide)
          · rw [if_neg h2] at h0 ⊢
            by_cases h40 : acc.length = 40
            · rw [if_pos h40] at h0
              exact absurd h0 (show ¬ (1 : Int) = 0 by decide)
            · rw [if_neg h40] at h0 ⊢
              exact txF_ok n (acc ++ [0]) r (by omega) (by rw [List.length_append]; show acc.length + 1 ≤ 40; omega) h0
    · rw [txF_ne _ _ hc] at h0 ⊢
      by_cases h40 : acc.length = 40
      · rw [if_pos h40] at h0
        exact absurd h0 (show ¬ (1 : Int) = 0 by decide)
      · rw [if_neg h40] at h0 ⊢
        exact txF_ok n (acc ++ [c]) r (by omega) (by rw [List.length_append]; show acc.length + 1 ≤ 40; omega) h0
theorem chk_text {t : List UInt8} (h : vld t = true) (hl : t.length ≤ 40) : chk ⟨4, 0, 0#64, t⟩ = 0 := by
  unfold chk
  dsimp only
  rw [if_neg (by omega), if_neg (by omega), if_neg, if_neg, if_neg, if_neg]
  · rw [h]; intro h; exact absurd h.2 (by decide)
  · intro h; exact absurd h.1 (by decide)
  · intro h; exact absurd h.1 (by decide)
  · rintro (h | h | h)
    · exact h.1 rfl
    · exact h.2 rfl
    · exact h.2.2 rfl
/-- the document's value of a text is the code's -/
theorem txV_rd (r : List UInt8) : txV (txF [] r) = rdV (rdF (5 :: r)) := by
  rw [rdF, if_neg (by decide), if_neg (by decide), if_neg (by decide), if_pos rfl]
  have h := txF_ok r.length [] r (Nat.le_refl _) (by decide)
  generalize txF [] r = q at *
  obtain ⟨t, e, k⟩ := q
  dsimp only at h ⊢
  unfold txV rdV
  by_cases h0 : e = 0
  · rw [if_neg (not_not_intro h0), if_pos h0]
    have h1 := chk_text (h h0).1 (h h0).2
    unfold ckF
    rw [h1, if_neg (not_not_intro rfl), if_pos rfl, Nat.add_comm]
  · rw [if_pos h0, if_neg h0, if_neg h0]
theorem sl_body (c : UInt8) (r : Byt) (n : Nat) (k : Int) (hk : k = ((1 + n : Nat) : Int)) : (strB (c :: r)).extract (Int.toNat 1) (Int.toNat k) = strB (r.take n) := by
  subst hk
  rw [strB_extract, Int.toNat_natCast, Nat.add_comm]
  rfl
def fin (v : Val) (k : Int) : Val × Int × Int := if chk v ≠ 0 then (val0, 0, 3) else (v, k, 0)
theorem fin_ck (v : Val) (k : Nat) : rdV (ckF v k) = fin v (k : Int) := by
  unfold rdV ckF fin
  by_cases h : chk v ≠ 0
  · rw [if_pos h, if_pos h]
    rfl
  · rw [if_neg h, if_neg h]
    rfl
theorem chk0 : chk val0 = 0 := by decide
theorem rd_1 (r : List UInt8) : rdV (rdF (1 :: r)) = if r.length < 0 then (val0, 0, 4) else fin val0 1 := by
  rw [rdF, if_pos rfl, if_neg (Nat.not_lt_zero _), fin, chk0]
  rfl
theorem rd_2 (r : List UInt8) : rdV (rdF (2 :: r)) = if r.length < 1 then (val0, 0, 4) else fin ⟨1, ((nmF (r.take 1)).toNat : Int), 0#64, []⟩ 2 := by
  rw [rdF, if_neg (by decide), if_pos rfl]
  cases r with
  | nil => rfl
  | cons c r =>
    rw [if_neg (by simp), if_neg (by simp), fin_ck]
    have h : (nmF ((c :: r).take 1)).toNat = c.toNat := by
      show ((0#64 <<< 8) ||| BitVec.ofNat 64 c.toNat).toNat = c.toNat
      have hc := c.toNat_lt
      rw [show (0#64 <<< 8 : BitVec 64) = 0#64 from by decide, BitVec.zero_or, BitVec.toNat_ofNat]
      omega
    rw [h]
    rfl
theorem rd_3 (r : List UInt8) : rdV (rdF (3 :: r)) = if r.length < 8 then (val0, 0, 4) else fin ⟨2, viF (nmF (r.take 8)), 0#64, []⟩ 9 := by
  rw [rdF, if_neg (by decide), if_neg (by decide), if_pos (.inl rfl)]
  by_cases h : r.length < 8
  · rw [if_pos h, if_pos h]
    rfl
  · rw [if_neg h, if_neg h, if_pos rfl, fin_ck]
    rfl
theorem rd_4 (r : List UInt8) : rdV (rdF (4 :: r)) = if r.length < 8 then (val0, 0, 4) else fin ⟨3, 0, bkF (nmF (r.take 8)), []⟩ 9 := by
  rw [rdF, if_neg (by decide), if_neg (by decide), if_pos (.inr rfl)]
  by_cases h : r.length < 8
  · rw [if_pos h, if_pos h]
    rfl
  · rw [if_neg h, if_neg h, if_neg (by decide), fin_ck]
    rfl
theorem q_subtop (x : BitVec 64) : IntKind.u64.wrap ((x.toNat : Int) - 9223372036854775808) = ((x + topQ).toNat : Int) := by
  have h := x.isLt
  have ht : topQ.toNat = 9223372036854775808 := by decide
  rw [BitVec.toNat_add, ht]
  generalize x.toNat = n at *
  unfold IntKind.wrap
  simp [IntKind.bits, IntKind.signed]
  omega
theorem i64_range (n : Int) : -9223372036854775808 ≤ IntKind.i64.wrap n ∧ IntKind.i64.wrap n ≤ 9223372036854775807 := by
  unfold IntKind.wrap
  simp [IntKind.bits, IntKind.signed]
  omega
theorem nm1_lt (r : List UInt8) : (nmF (r.take 1)).toNat < 256 := by
  cases r with
  | nil => decide
  | cons c r =>
    show ((0#64 <<< 8) ||| BitVec.ofNat 64 c.toNat).toNat < 256
    have hc := c.toNat_lt
    rw [show (0#64 <<< 8 : BitVec 64) = 0#64 from by decide, BitVec.zero_or, BitVec.toNat_ofNat]
    omega
theorem val_ok (k : Int) (i : Int) (b : BitVec 64) (t : List UInt8) (hk : 0 ≤ k ∧ k ≤ 4) (hi : -9223372036854775808 ≤ i ∧ i ≤ 9223372036854775807) : Val.ok ⟨k, i, b, t⟩ := by
  unfold Val.ok
  exact ⟨⟨by show _ ≤ k; omega, by show k ≤ _; omega⟩, hi⟩
theorem textOf_sl (c : UInt8) (r : Byt) (h : r.length + 1 ≤ maxLen) : FnG Tryd.prog 83 gK [.one (.e (.v (.string ((strB (c :: r)).extract (Int.toNat 1) (Int.toNat ((strB (c :: r)).size : Int))))))] (rW (txV (txF [] r))) := by
  rw [strB_from]
  exact textOf_fn r h
theorem number_sl (c : UInt8) (r : Byt) (n : Nat) (k : Int) (hk : k = ((1 + n : Nat) : Int)) (h : r.length ≤ maxLen) : FnD Tryd.prog 60 [.one (.e (.v (.string ((strB (c :: r)).extract (Int.toNat 1) (Int.toNat k)))))] (.one (.e (eQ (nmF (r.take n))))) := by
  rw [sl_body c r n k hk]
  exact number_fn (r.take n) (by rw [List.length_take]; omega)
set_option maxRecDepth 10000 in
set_option maxHeartbeats 2000000 in
theorem valueOf_fn (s : Byt) (hs : s.length ≤ maxLen) : FnG Tryd.prog 52 gK [.one (.e (eT s))] (rW (rdV (rdF s))) := by
  refine fn_introG (T := tab) tOk Tryd.func52 rfl (by kernel_rfl) (by simp [Tryd.ntmps52]) ?_
  intro X hX
  have hnt : X.nt = 79 := hX
  clear hX
  have hl : (strB s).size = s.length := strB_size s
  have hs' : s.length ≤ 9223372036854775807 := hs
  repeat' (first | refine tr_seq ?_ | refine reg (T := tab) tOk hnt rfl ?_ ?_ | refine regD (T := tab) tOk mixedR hnt rfl (by decide +kernel) ?_ ?_ | refine tr_block ?_ | refine tr_skip ?_)
  · (dsimp only [AllP]; (repeat' first | exact trivial | assumption | exact Nat.le_of_ble_eq_true rfl | apply And.intro | decide | intro _ | exact rfl))
  · (dsimp only [AllP]; (repeat' first | exact trivial | assumption | exact Nat.le_of_ble_eq_true rfl | apply And.intro | decide | intro _ | exact rfl))
  repeat' (first | refine tr_seq ?_ | refine tr_block ?_ | refine tr_skip ?_)
  refine tr_cond rfl (fun hc => ?_) (fun hc => ?_)
  · have hc : decide (s.length = 0) = true := (strEq_nil s).symm.trans hc
    have hn : s = [] := List.eq_nil_of_length_eq_zero (of_decide_eq_true hc)
    subst hn
    repeat' (first | refine tr_seq ?_ | refine reg (T := tab) tOk hnt rfl ?_ ?_ | refine regD (T := tab) tOk mixedR hnt rfl (by decide +kernel) ?_ ?_ | refine tr_block ?_ | refine tr_skip ?_)
    · (dsimp only [AllP]; (repeat' first | exact trivial | assumption | exact Nat.le_of_ble_eq_true rfl | apply And.intro | decide | intro _ | exact rfl))
    refine tr_ret ⟨.inr rfl, _, _, rfl, by (repeat' first | exact trivial | exact Nat.le_of_ble_eq_true rfl | apply And.intro), ?_⟩
    exact rfl
  have hc : decide (s.length = 0) = false := (strEq_nil s).symm.trans hc
  have hn : s.length ≠ 0 := of_decide_eq_false hc
  obtain ⟨c, r, rfl⟩ : ∃ c r, s = c :: r := by
    cases s with
    | nil => exact absurd rfl hn
    | cons c r => exact ⟨c, r, rfl⟩
  rw [List.length_cons] at hs hs' hl
  clear hc hn
  have hcl := c.toNat_lt
  repeat' (first | refine tr_seq ?_ | refine tr_block ?_ | refine tr_skip ?_)
  first | refine reg (T := tab) tOk hnt rfl ?_ ?_ | refine regD (T := tab) tOk mixedR hnt rfl (by decide +kernel) ?_ ?_
  · rw [hl]
    (dsimp only [AllP]; (repeat' first | exact trivial | assumption | exact Nat.le_of_ble_eq_true rfl | apply And.intro | exact eCells_len1 _ _ ‹_› | exact eCells_isByte _ _ ‹_› | (intro hh_; have hg_ := hh_; (try simp only [condT_ff, condF_tt, notE_t, notE_f, Bool.and_eq_true, ne_eq, decide_eq_true_eq, decide_eq_false_iff_not] at hg_)) | intro _ | exact rfl | omega))
  have gx : (strB (c :: r)).data.toList.getD (Int.toNat 0) 0 = c := rfl
  have gk : IntKind.i64.wrap (IntKind.i64.wrap (c.toNat : Int) - 1) = (c.toNat : Int) - 1 := by
    rw [wrapB]
    exact wrap64_id (by omega) (by omega)
  rw [gx, gk]
  repeat' (first | refine tr_seq ?_ | refine tr_block ?_ | refine tr_skip ?_)
  first | refine reg (T := tab) tOk hnt rfl ?_ ?_ | refine regD (T := tab) tOk mixedR hnt rfl (by decide +kernel) ?_ ?_
  · (dsimp only [AllP]; (repeat' first | exact trivial | assumption | exact Nat.le_of_ble_eq_true rfl | apply And.intro | decide | intro _ | exact rfl))
  repeat' (first | refine tr_seq ?_ | refine tr_block ?_ | refine tr_skip ?_)
  first | refine reg (T := tab) tOk hnt rfl ?_ ?_ | refine regD (T := tab) tOk mixedR hnt rfl (by decide +kernel) ?_ ?_
  · (dsimp only [AllP]; (repeat' first | exact trivial | assumption | exact Nat.le_of_ble_eq_true rfl | apply And.intro | decide | intro _ | exact rfl))
  repeat' (first | refine tr_seq ?_ | refine tr_block ?_ | refine tr_skip ?_)
  refine tr_cond rfl (fun hc => ?_) (fun hc => ?_)
  · simp only [condT_tt, condT_ff, condF_tt, condF_ff, notE_t, notE_f, decide_eq_true_eq, decide_eq_false_iff_not] at hc
    have n1 : c ≠ 1 := fun e => by subst e; revert hc; decide
    have n2 : c ≠ 2 := fun e => by subst e; revert hc; decide
    have n3 : ¬ (c = 3 ∨ c = 4) := by
      rintro (e | e) <;> (subst e; revert hc; decide)
    have n5 : c ≠ 5 := fun e => by subst e; revert hc; decide
    rw [rdF, if_neg n1, if_neg n2, if_neg n3, if_neg n5]
    repeat' (first | refine tr_seq ?_ | refine reg (T := tab) tOk hnt rfl ?_ ?_ | refine regD (T := tab) tOk mixedR hnt rfl (by decide +kernel) ?_ ?_ | refine tr_block ?_ | refine tr_skip ?_)
    · (dsimp only [AllP]; (repeat' first | exact trivial | assumption | exact Nat.le_of_ble_eq_true rfl | apply And.intro | decide | intro _ | exact rfl))
    refine tr_ret ⟨.inr rfl, _, _, rfl, by (repeat' first | exact trivial | exact Nat.le_of_ble_eq_true rfl | apply And.intro), ?_⟩
    exact rfl
  simp only [condT_tt, condT_ff, condF_tt, condF_ff, notE_t, notE_f, decide_eq_true_eq, decide_eq_false_iff_not] at hc
  have hz : c = 5 ∨ c = 1 ∨ c = 2 ∨ c = 3 ∨ c = 4 := by
    have h1 : c.toNat = 5 ∨ c.toNat = 1 ∨ c.toNat = 2 ∨ c.toNat = 3 ∨ c.toNat = 4 := by omega
    rcases h1 with h | h | h | h | h
    · exact .inl (UInt8.toNat_inj.1 h)
    · exact .inr (.inl (UInt8.toNat_inj.1 h))
    · exact .inr (.inr (.inl (UInt8.toNat_inj.1 h)))
    · exact .inr (.inr (.inr (.inl (UInt8.toNat_inj.1 h))))
    · exact .inr (.inr (.inr (.inr (UInt8.toNat_inj.1 h))))
  clear hc hcl gx gk
  rcases hz with rfl | rfl | rfl | rfl | rfl
  · repeat' (first | refine tr_seq ?_ | refine reg (T := tab) tOk hnt rfl ?_ ?_ | refine regD (T := tab) tOk mixedR hnt rfl (by decide +kernel) ?_ ?_ | refine tr_block ?_ | refine tr_skip ?_)
    · (dsimp only [AllP]; (repeat' first | exact trivial | assumption | exact Nat.le_of_ble_eq_true rfl | apply And.intro | decide | intro _ | exact rfl))
    repeat' (first | refine tr_seq ?_ | refine tr_block ?_ | refine tr_skip ?_)
    refine tr_cond rfl (fun hc => ?_) (fun hc => ?_)
    · rw [← txV_rd]
      repeat' (first | refine tr_seq ?_ | refine tr_block ?_ | refine tr_skip ?_)
      refine tr_region (lex (T := tab) tOk hnt rfl ?_ (callV rfl rfl rfl rfl rfl rfl rfl hnt rfl (textOf_sl 5 r hs) (lex (T := tab) tOk hnt rfl ?_ (Lex.nil _)))) ?_
      · rw [hl]
        (dsimp only [AllP]; (repeat' first | exact trivial | assumption | exact Nat.le_of_ble_eq_true rfl | apply And.intro | exact eCells_len1 _ _ ‹_› | exact eCells_isByte _ _ ‹_› | (intro hh_; have hg_ := hh_; (try simp only [condT_ff, condF_tt, notE_t, notE_f, Bool.and_eq_true, ne_eq, decide_eq_true_eq, decide_eq_false_iff_not] at hg_)) | intro _ | exact rfl | omega))
      · (dsimp only [AllP]; (repeat' first | exact trivial | assumption | exact Nat.le_of_ble_eq_true rfl | apply And.intro | decide | intro _ | exact rfl))
      refine tr_ret ⟨.inr rfl, _, _, rfl, by (repeat' first | exact trivial | exact Nat.le_of_ble_eq_true rfl | apply And.intro), ?_⟩
      exact rfl
    exact absurd (show true = false from hc) (by decide)
  · have hE := rd_1 r
    rw [show ((UInt8.toNat 1 : Nat) : Int) - 1 = 0 from rfl]
    repeat' (first | refine tr_seq ?_ | refine reg (T := tab) tOk hnt rfl ?_ ?_ | refine regD (T := tab) tOk mixedR hnt rfl (by decide +kernel) ?_ ?_ | refine tr_block ?_ | refine tr_skip ?_)
    · (dsimp only [AllP]; (repeat' first | exact trivial | assumption | exact Nat.le_of_ble_eq_true rfl | apply And.intro | decide | intro _ | exact rfl))
    repeat' (first | refine tr_seq ?_ | refine tr_block ?_ | refine tr_skip ?_)
    refine tr_cond rfl (fun hc => ?_) (fun hc => ?_)
    · exact absurd (show false = true from hc) (by decide)
    repeat' (first | refine tr_seq ?_ | refine tr_block ?_ | refine tr_skip ?_)
    first | refine reg (T := tab) tOk hnt rfl ?_ ?_ | refine regD (T := tab) tOk mixedR hnt rfl (by decide +kernel) ?_ ?_
    · (dsimp only [AllP]; (repeat' first | exact trivial | assumption | exact Nat.le_of_ble_eq_true rfl | apply And.intro | exact eCells_len1 _ _ ‹_› | exact eCells_isByte _ _ ‹_› | (intro hh_; have hg_ := hh_; (try simp only [condT_ff, condF_tt, notE_t, notE_f, Bool.and_eq_true, ne_eq, decide_eq_true_eq, decide_eq_false_iff_not] at hg_)) | intro _ | exact rfl | omega))
      all_goals decide
    refine tr_le (s' := St.of [(0, .one (.e (eT (1 :: r)))), (2, .one (.ptr 2 0 0)), (5, .one (.e (eI 0))), (7, .one (.e (eI 0))), ((1000000 + 0), .one (.eptr fsE)), ((1000000 + 1), .one (.eptr acE))] [(2, ⟨0, .box (.es (eVal val0)), 0⟩)]) (le_of (ad := []) (by refine ⟨?_, ?_, ?_, ?_, ?_, ?_, trivial⟩ <;> first | exact trivial | rfl | exact ⟨rfl, rfl⟩ | exact ⟨rfl, rfl, rfl⟩ | exact ⟨rfl, rfl, rfl, rfl⟩ | exact ⟨rfl, rfl, rfl, rfl, rfl⟩ | exact congrArg (fun z : Int => E.v (.int .i64 z)) (wrap64_id (by omega) (by omega)) | (refine ⟨rfl, ?_⟩; repeat' first | exact trivial | rfl | apply And.intro)) (memOk_box rfl rfl rfl trivial)) ?_
    have hw : IntKind.i64.wrap (1 + 0) = 1 := by decide
    repeat' (first | refine tr_seq ?_ | refine reg (T := tab) tOk hnt rfl ?_ ?_ | refine regD (T := tab) tOk mixedR hnt rfl (by decide +kernel) ?_ ?_ | refine tr_block ?_ | refine tr_skip ?_)
    · (dsimp only [AllP]; (repeat' first | exact trivial | assumption | exact Nat.le_of_ble_eq_true rfl | apply And.intro | decide | intro _ | exact rfl))
    rw [hw]
    repeat' (first | refine tr_seq ?_ | refine tr_block ?_ | refine tr_skip ?_)
    refine tr_cond rfl (fun hc => ?_) (fun hc => ?_)
    · have hc : decide (((strB (1 :: r)).size : Int) < 1) = true := hc
      simp only [condT_tt, condT_ff, condF_tt, condF_ff, notE_t, notE_f, decide_eq_true_eq, decide_eq_false_iff_not] at hc
      (try simp only [hl] at hc)
      (try simp only [condT_tt, condT_ff, condF_tt, condF_ff, notE_t, notE_f, decide_eq_true_eq, decide_eq_false_iff_not] at hc)
      rw [hE, if_pos (by omega)]
      repeat' (first | refine tr_seq ?_ | refine reg (T := tab) tOk hnt rfl ?_ ?_ | refine regD (T := tab) tOk mixedR hnt rfl (by decide +kernel) ?_ ?_ | refine tr_block ?_ | refine tr_skip ?_)
      · (dsimp only [AllP]; (repeat' first | exact trivial | assumption | exact Nat.le_of_ble_eq_true rfl | apply And.intro | decide | intro _ | exact rfl))
      refine tr_ret ⟨.inr rfl, _, _, rfl, by (repeat' first | exact trivial | exact Nat.le_of_ble_eq_true rfl | apply And.intro), ?_⟩
      exact rfl
    have hc : decide (((strB (1 :: r)).size : Int) < 1) = false := hc
    simp only [condT_tt, condT_ff, condF_tt, condF_ff, notE_t, notE_f, decide_eq_true_eq, decide_eq_false_iff_not] at hc
    (try simp only [hl] at hc)
    (try simp only [condT_tt, condT_ff, condF_tt, condF_ff, notE_t, notE_f, decide_eq_true_eq, decide_eq_false_iff_not] at hc)
    rw [hE, if_neg (by omega)]
    clear hE
    repeat' (first | refine tr_seq ?_ | refine tr_block ?_ | refine tr_skip ?_)
    refine tr_region (lex (T := tab) tOk hnt rfl ?_ (call rfl rfl rfl rfl rfl rfl rfl hnt (number_sl 1 r 0 1 rfl (by omega)) (lex (T := tab) tOk hnt rfl ?_ (Lex.nil _)))) ?_
    · rw [hl, hw]
      (dsimp only [AllP]; (repeat' first | exact trivial | assumption | exact Nat.le_of_ble_eq_true rfl | apply And.intro | exact eCells_len1 _ _ ‹_› | exact eCells_isByte _ _ ‹_› | (intro hh_; have hg_ := hh_; (try simp only [condT_ff, condF_tt, notE_t, notE_f, Bool.and_eq_true, ne_eq, decide_eq_true_eq, decide_eq_false_iff_not] at hg_)) | intro _ | exact rfl | omega))
    · (dsimp only [AllP]; (repeat' first | exact trivial | assumption | exact Nat.le_of_ble_eq_true rfl | apply And.intro | decide | intro _ | exact rfl))
    generalize hnm : nmF (r.take 0) = n
    repeat' (first | refine tr_seq ?_ | refine reg (T := tab) tOk hnt rfl ?_ ?_ | refine regD (T := tab) tOk mixedR hnt rfl (by decide +kernel) ?_ ?_ | refine tr_block ?_ | refine tr_skip ?_)
    · (dsimp only [AllP]; (repeat' first | exact trivial | assumption | exact Nat.le_of_ble_eq_true rfl | apply And.intro | decide | intro _ | exact rfl))
    · (dsimp only [AllP]; (repeat' first | exact trivial | assumption | exact Nat.le_of_ble_eq_true rfl | apply And.intro | decide | intro _ | exact rfl))
    · (dsimp only [AllP]; (repeat' first | exact trivial | assumption | exact Nat.le_of_ble_eq_true rfl | apply And.intro | decide | intro _ | exact rfl))
    repeat' (first | refine tr_seq ?_ | refine tr_block ?_ | refine tr_skip ?_)
    refine tr_cond rfl (fun hc => ?_) (fun hc => ?_)
    · exact absurd (show false = true from hc) (by decide)
    repeat' (first | refine tr_seq ?_ | refine reg (T := tab) tOk hnt rfl ?_ ?_ | refine regD (T := tab) tOk mixedR hnt rfl (by decide +kernel) ?_ ?_ | refine tr_block ?_ | refine tr_skip ?_)
    · (dsimp only [AllP]; (repeat' first | exact trivial | assumption | exact Nat.le_of_ble_eq_true rfl | apply And.intro | decide | intro _ | exact rfl))
    repeat' (first | refine tr_seq ?_ | refine tr_block ?_ | refine tr_skip ?_)
    refine tr_cond rfl (fun hc => ?_) (fun hc => ?_)
    · exact absurd (show false = true from hc) (by decide)
    repeat' (first | refine tr_seq ?_ | refine reg (T := tab) tOk hnt rfl ?_ ?_ | refine regD (T := tab) tOk mixedR hnt rfl (by decide +kernel) ?_ ?_ | refine tr_block ?_ | refine tr_skip ?_)
    · (dsimp only [AllP]; (repeat' first | exact trivial | assumption | exact Nat.le_of_ble_eq_true rfl | apply And.intro | decide | intro _ | exact rfl))
    repeat' (first | refine tr_seq ?_ | refine tr_block ?_ | refine tr_skip ?_)
    refine tr_cond rfl (fun hc => ?_) (fun hc => ?_)
    · exact absurd (show false = true from hc) (by decide)
    have hvo : val0.ok := val_ok 0 0 0#64 [] (by decide) (by decide)
    have hv : True := trivial
    repeat' (first | refine tr_seq ?_ | refine tr_block ?_ | refine tr_skip ?_)
    refine tr_le (s' := St.of [(0, .one (.e (eT (1 :: r)))), (2, .one (.ptr 2 0 0)), (5, .one (.e (eI 0))), (7, .one (.e (eI 0))), (9, .one (.ptr 9 0 0)), ((1000000 + 0), .one (.eptr fsE)), ((1000000 + 1), .one (.eptr acE))] [(2, ⟨0, .box (.es (eVal val0)), 0⟩), (9, ⟨0, .box (.es (eVal val0)), 0⟩)]) (le_of (ad := []) (by refine ⟨?_, ?_, ?_, ?_, ?_, ?_, ?_, trivial⟩ <;> first | exact trivial | rfl | exact ⟨rfl, rfl⟩ | exact ⟨rfl, rfl, rfl⟩ | exact ⟨rfl, rfl, rfl, rfl⟩ | exact ⟨rfl, rfl, rfl, rfl, rfl⟩ | exact congrArg (fun z : Int => E.v (.int .i64 z)) (wrap64_id (by omega) (by omega)) | (refine ⟨rfl, ?_⟩; repeat' first | exact trivial | rfl | apply And.intro)) (memOk_box rfl rfl rfl (memOk_box rfl rfl rfl trivial))) ?_
    repeat' (first | refine tr_seq ?_ | refine tr_block ?_ | refine tr_skip ?_)
    refine tr_region (lex (T := tab) tOk hnt rfl ?_ (callV rfl rfl rfl rfl rfl rfl rfl hnt rfl (fault_fn val0 hvo) (lex (T := tab) tOk hnt rfl ?_ (Lex.nil _)))) ?_
    · (dsimp only [AllP]; (repeat' first | exact trivial | assumption | exact Nat.le_of_ble_eq_true rfl | apply And.intro | decide | intro _ | exact rfl))
    · (dsimp only [AllP]; (repeat' first | exact trivial | assumption | exact Nat.le_of_ble_eq_true rfl | apply And.intro | decide | intro _ | exact rfl))
    unfold fin
    repeat' (first | refine tr_seq ?_ | refine tr_block ?_ | refine tr_skip ?_)
    refine tr_cond rfl (fun hc => ?_) (fun hc => ?_)
    · have hc : (!decide (chk val0 = 0)) = true := hc
      simp only [condT_tt, condT_ff, condF_tt, condF_ff, notE_t, notE_f, decide_eq_true_eq, decide_eq_false_iff_not] at hc
      rw [if_pos hc]
      repeat' (first | refine tr_seq ?_ | refine reg (T := tab) tOk hnt rfl ?_ ?_ | refine regD (T := tab) tOk mixedR hnt rfl (by decide +kernel) ?_ ?_ | refine tr_block ?_ | refine tr_skip ?_)
      · (dsimp only [AllP]; (repeat' first | exact trivial | assumption | exact Nat.le_of_ble_eq_true rfl | apply And.intro | decide | intro _ | exact rfl))
      refine tr_ret ⟨.inr rfl, _, _, rfl, by (repeat' first | exact trivial | exact Nat.le_of_ble_eq_true rfl | apply And.intro), ?_⟩
      exact rfl
    have hc : (!decide (chk val0 = 0)) = false := hc
    simp only [condT_tt, condT_ff, condF_tt, condF_ff, notE_t, notE_f, decide_eq_true_eq, decide_eq_false_iff_not] at hc
    rw [if_neg (not_not_intro hc)]
    repeat' (first | refine tr_seq ?_ | refine reg (T := tab) tOk hnt rfl ?_ ?_ | refine regD (T := tab) tOk mixedR hnt rfl (by decide +kernel) ?_ ?_ | refine tr_block ?_ | refine tr_skip ?_)
    · (dsimp only [AllP]; (repeat' first | exact trivial | assumption | exact Nat.le_of_ble_eq_true rfl | apply And.intro | decide | intro _ | exact rfl))
    rw [hw]
    refine tr_ret ⟨.inr rfl, _, _, rfl, by (repeat' first | exact trivial | exact Nat.le_of_ble_eq_true rfl | apply And.intro), ?_⟩
    exact rfl
  · have hE := rd_2 r
    have hb := nm1_lt r
    rw [show ((UInt8.toNat 2 : Nat) : Int) - 1 = 1 from rfl]
    repeat' (first | refine tr_seq ?_ | refine reg (T := tab) tOk hnt rfl ?_ ?_ | refine regD (T := tab) tOk mixedR hnt rfl (by decide +kernel) ?_ ?_ | refine tr_block ?_ | refine tr_skip ?_)
    · (dsimp only [AllP]; (repeat' first | exact trivial | assumption | exact Nat.le_of_ble_eq_true rfl | apply And.intro | decide | intro _ | exact rfl))
    repeat' (first | refine tr_seq ?_ | refine tr_block ?_ | refine tr_skip ?_)
    refine tr_cond rfl (fun hc => ?_) (fun hc => ?_)
    · exact absurd (show false = true from hc) (by decide)
    repeat' (first | refine tr_seq ?_ | refine tr_block ?_ | refine tr_skip ?_)
    first | refine reg (T := tab) tOk hnt rfl ?_ ?_ | refine regD (T := tab) tOk mixedR hnt rfl (by decide +kernel) ?_ ?_
    · (dsimp only [AllP]; (repeat' first | exact trivial | assumption | exact Nat.le_of_ble_eq_true rfl | apply And.intro | exact eCells_len1 _ _ ‹_› | exact eCells_isByte _ _ ‹_› | (intro hh_; have hg_ := hh_; (try simp only [condT_ff, condF_tt, notE_t, notE_f, Bool.and_eq_true, ne_eq, decide_eq_true_eq, decide_eq_false_iff_not] at hg_)) | intro _ | exact rfl | omega))
      all_goals decide
    refine tr_le (s' := St.of [(0, .one (.e (eT (2 :: r)))), (2, .one (.ptr 2 0 0)), (5, .one (.e (eI 1))), (7, .one (.e (eI 1))), ((1000000 + 0), .one (.eptr fsE)), ((1000000 + 1), .one (.eptr acE))] [(2, ⟨0, .box (.es (eVal val0)), 0⟩)]) (le_of (ad := []) (by refine ⟨?_, ?_, ?_, ?_, ?_, ?_, trivial⟩ <;> first | exact trivial | rfl | exact ⟨rfl, rfl⟩ | exact ⟨rfl, rfl, rfl⟩ | exact ⟨rfl, rfl, rfl, rfl⟩ | exact ⟨rfl, rfl, rfl, rfl, rfl⟩ | exact congrArg (fun z : Int => E.v (.int .i64 z)) (wrap64_id (by omega) (by omega)) | (refine ⟨rfl, ?_⟩; repeat' first | exact trivial | rfl | apply And.intro)) (memOk_box rfl rfl rfl trivial)) ?_
    have hw : IntKind.i64.wrap (1 + 1) = 2 := by decide
    repeat' (first | refine tr_seq ?_ | refine reg (T := tab) tOk hnt rfl ?_ ?_ | refine regD (T := tab) tOk mixedR hnt rfl (by decide +kernel) ?_ ?_ | refine tr_block ?_ | refine tr_skip ?_)
    · (dsimp only [AllP]; (repeat' first | exact trivial | assumption | exact Nat.le_of_ble_eq_true rfl | apply And.intro | decide | intro _ | exact rfl))
    rw [hw]
    repeat' (first | refine tr_seq ?_ | refine tr_block ?_ | refine tr_skip ?_)
    refine tr_cond rfl (fun hc => ?_) (fun hc => ?_)
    · have hc : decide (((strB (2 :: r)).size : Int) < 2) = true := hc
      simp only [condT_tt, condT_ff, condF_tt, condF_ff, notE_t, notE_f, decide_eq_true_eq, decide_eq_false_iff_not] at hc
      (try simp only [hl] at hc)
      (try simp only [condT_tt, condT_ff, condF_tt, condF_ff, notE_t, notE_f, decide_eq_true_eq, decide_eq_false_iff_not] at hc)
      rw [hE, if_pos (by omega)]
      repeat' (first | refine tr_seq ?_ | refine reg (T := tab) tOk hnt rfl ?_ ?_ | refine regD (T := tab) tOk mixedR hnt rfl (by decide +kernel) ?_ ?_ | refine tr_block ?_ | refine tr_skip ?_)
      · (dsimp only [AllP]; (repeat' first | exact trivial | assumption | exact Nat.le_of_ble_eq_true rfl | apply And.intro | decide | intro _ | exact rfl))
      refine tr_ret ⟨.inr rfl, _, _, rfl, by (repeat' first | exact trivial | exact Nat.le_of_ble_eq_true rfl | apply And.intro), ?_⟩
      exact rfl
    have hc : decide (((strB (2 :: r)).size : Int) < 2) = false := hc
    simp only [condT_tt, condT_ff, condF_tt, condF_ff, notE_t, notE_f, decide_eq_true_eq, decide_eq_false_iff_not] at hc
    (try simp only [hl] at hc)
    (try simp only [condT_tt, condT_ff, condF_tt, condF_ff, notE_t, notE_f, decide_eq_true_eq, decide_eq_false_iff_not] at hc)
    rw [hE, if_neg (by omega)]
    clear hE
    repeat' (first | refine tr_seq ?_ | refine tr_block ?_ | refine tr_skip ?_)
    refine tr_region (lex (T := tab) tOk hnt rfl ?_ (call rfl rfl rfl rfl rfl rfl rfl hnt (number_sl 2 r 1 2 rfl (by omega)) (lex (T := tab) tOk hnt rfl ?_ (Lex.nil _)))) ?_
    · rw [hl, hw]
      (dsimp only [AllP]; (repeat' first | exact trivial | assumption | exact Nat.le_of_ble_eq_true rfl | apply And.intro | exact eCells_len1 _ _ ‹_› | exact eCells_isByte _ _ ‹_› | (intro hh_; have hg_ := hh_; (try simp only [condT_ff, condF_tt, notE_t, notE_f, Bool.and_eq_true, ne_eq, decide_eq_true_eq, decide_eq_false_iff_not] at hg_)) | intro _ | exact rfl | omega))
    · (dsimp only [AllP]; (repeat' first | exact trivial | assumption | exact Nat.le_of_ble_eq_true rfl | apply And.intro | decide | intro _ | exact rfl))
    generalize hnm : nmF (r.take 1) = n
    repeat' (first | refine tr_seq ?_ | refine reg (T := tab) tOk hnt rfl ?_ ?_ | refine regD (T := tab) tOk mixedR hnt rfl (by decide +kernel) ?_ ?_ | refine tr_block ?_ | refine tr_skip ?_)
    · (dsimp only [AllP]; (repeat' first | exact trivial | assumption | exact Nat.le_of_ble_eq_true rfl | apply And.intro | decide | intro _ | exact rfl))
    · (dsimp only [AllP]; (repeat' first | exact trivial | assumption | exact Nat.le_of_ble_eq_true rfl | apply And.intro | decide | intro _ | exact rfl))
    · (dsimp only [AllP]; (repeat' first | exact trivial | assumption | exact Nat.le_of_ble_eq_true rfl | apply And.intro | decide | intro _ | exact rfl))
    rw [hnm] at hb
    clear hnm
    have hi : IntKind.i64.wrap (n.toNat : Int) = (n.toNat : Int) := wrap64_id (by omega) (by omega)
    repeat' (first | refine tr_seq ?_ | refine tr_block ?_ | refine tr_skip ?_)
    refine tr_cond rfl (fun hc => ?_) (fun hc => ?_)
    · repeat' (first | refine tr_seq ?_ | refine reg (T := tab) tOk hnt rfl ?_ ?_ | refine regD (T := tab) tOk mixedR hnt rfl (by decide +kernel) ?_ ?_ | refine tr_block ?_ | refine tr_skip ?_)
      · (dsimp only [AllP]; (repeat' first | exact trivial | assumption | exact Nat.le_of_ble_eq_true rfl | apply And.intro | decide | intro _ | exact rfl))
      rw [hi]
      have hvo := val_ok 1 (n.toNat : Int) 0#64 [] (by decide) (by omega)
      repeat' (first | refine tr_seq ?_ | refine tr_block ?_ | refine tr_skip ?_)
      refine tr_le (s' := St.of [(0, .one (.e (eT (2 :: r)))), (2, .one (.ptr 2 0 0)), (5, .one (.e (eI 1))), (7, .one (.e (eI 1))), (9, .one (.ptr 9 0 0)), ((1000000 + 0), .one (.eptr fsE)), ((1000000 + 1), .one (.eptr acE))] [(2, ⟨0, .box (.es (eVal val0)), 0⟩), (9, ⟨0, .box (.es (eVal (⟨1, (n.toNat : Int), 0#64, []⟩ : Val))), 0⟩)]) (le_of (ad := []) (by refine ⟨?_, ?_, ?_, ?_, ?_, ?_, ?_, trivial⟩ <;> first | exact trivial | rfl | exact ⟨rfl, rfl⟩ | exact ⟨rfl, rfl, rfl⟩ | exact ⟨rfl, rfl, rfl, rfl⟩ | exact ⟨rfl, rfl, rfl, rfl, rfl⟩ | exact congrArg (fun z : Int => E.v (.int .i64 z)) (wrap64_id (by omega) (by omega)) | (refine ⟨rfl, ?_⟩; repeat' first | exact trivial | rfl | apply And.intro)) (memOk_box rfl rfl rfl (memOk_box rfl rfl rfl trivial))) ?_
      repeat' (first | refine tr_seq ?_ | refine tr_block ?_ | refine tr_skip ?_)
      refine tr_region (lex (T := tab) tOk hnt rfl ?_ (callV rfl rfl rfl rfl rfl rfl rfl hnt rfl (fault_fn (⟨1, (n.toNat : Int), 0#64, []⟩ : Val) hvo) (lex (T := tab) tOk hnt rfl ?_ (Lex.nil _)))) ?_
      · (dsimp only [AllP]; (repeat' first | exact trivial | assumption | exact Nat.le_of_ble_eq_true rfl | apply And.intro | decide | intro _ | exact rfl))
      · (dsimp only [AllP]; (repeat' first | exact trivial | assumption | exact Nat.le_of_ble_eq_true rfl | apply And.intro | decide | intro _ | exact rfl))
      unfold fin
      repeat' (first | refine tr_seq ?_ | refine tr_block ?_ | refine tr_skip ?_)
      refine tr_cond rfl (fun hc => ?_) (fun hc => ?_)
      · have hc : (!decide (chk (⟨1, (n.toNat : Int), 0#64, []⟩ : Val) = 0)) = true := hc
        simp only [condT_tt, condT_ff, condF_tt, condF_ff, notE_t, notE_f, decide_eq_true_eq, decide_eq_false_iff_not] at hc
        rw [if_pos hc]
        repeat' (first | refine tr_seq ?_ | refine reg (T := tab) tOk hnt rfl ?_ ?_ | refine regD (T := tab) tOk mixedR hnt rfl (by decide +kernel) ?_ ?_ | refine tr_block ?_ | refine tr_skip ?_)
        · (dsimp only [AllP]; (repeat' first | exact trivial | assumption | exact Nat.le_of_ble_eq_true rfl | apply And.intro | decide | intro _ | exact rfl))
        refine tr_ret ⟨.inr rfl, _, _, rfl, by (repeat' first | exact trivial | exact Nat.le_of_ble_eq_true rfl | apply And.intro), ?_⟩
        exact rfl
      have hc : (!decide (chk (⟨1, (n.toNat : Int), 0#64, []⟩ : Val) = 0)) = false := hc
      simp only [condT_tt, condT_ff, condF_tt, condF_ff, notE_t, notE_f, decide_eq_true_eq, decide_eq_false_iff_not] at hc
      rw [if_neg (not_not_intro hc)]
      repeat' (first | refine tr_seq ?_ | refine reg (T := tab) tOk hnt rfl ?_ ?_ | refine regD (T := tab) tOk mixedR hnt rfl (by decide +kernel) ?_ ?_ | refine tr_block ?_ | refine tr_skip ?_)
      · (dsimp only [AllP]; (repeat' first | exact trivial | assumption | exact Nat.le_of_ble_eq_true rfl | apply And.intro | decide | intro _ | exact rfl))
      rw [hw]
      refine tr_ret ⟨.inr rfl, _, _, rfl, by (repeat' first | exact trivial | exact Nat.le_of_ble_eq_true rfl | apply And.intro), ?_⟩
      exact rfl
    exact absurd (show true = false from hc) (by decide)
  · have hE := rd_3 r
    rw [show ((UInt8.toNat 3 : Nat) : Int) - 1 = 2 from rfl]
    repeat' (first | refine tr_seq ?_ | refine reg (T := tab) tOk hnt rfl ?_ ?_ | refine regD (T := tab) tOk mixedR hnt rfl (by decide +kernel) ?_ ?_ | refine tr_block ?_ | refine tr_skip ?_)
    · (dsimp only [AllP]; (repeat' first | exact trivial | assumption | exact Nat.le_of_ble_eq_true rfl | apply And.intro | decide | intro _ | exact rfl))
    repeat' (first | refine tr_seq ?_ | refine tr_block ?_ | refine tr_skip ?_)
    refine tr_cond rfl (fun hc => ?_) (fun hc => ?_)
    · exact absurd (show false = true from hc) (by decide)
    repeat' (first | refine tr_seq ?_ | refine tr_block ?_ | refine tr_skip ?_)
    first | refine reg (T := tab) tOk hnt rfl ?_ ?_ | refine regD (T := tab) tOk mixedR hnt rfl (by decide +kernel) ?_ ?_
    · (dsimp only [AllP]; (repeat' first | exact trivial | assumption | exact Nat.le_of_ble_eq_true rfl | apply And.intro | exact eCells_len1 _ _ ‹_› | exact eCells_isByte _ _ ‹_› | (intro hh_; have hg_ := hh_; (try simp only [condT_ff, condF_tt, notE_t, notE_f, Bool.and_eq_true, ne_eq, decide_eq_true_eq, decide_eq_false_iff_not] at hg_)) | intro _ | exact rfl | omega))
      all_goals decide
    refine tr_le (s' := St.of [(0, .one (.e (eT (3 :: r)))), (2, .one (.ptr 2 0 0)), (5, .one (.e (eI 2))), (7, .one (.e (eI 8))), ((1000000 + 0), .one (.eptr fsE)), ((1000000 + 1), .one (.eptr acE))] [(2, ⟨0, .box (.es (eVal val0)), 0⟩)]) (le_of (ad := []) (by refine ⟨?_, ?_, ?_, ?_, ?_, ?_, trivial⟩ <;> first | exact trivial | rfl | exact ⟨rfl, rfl⟩ | exact ⟨rfl, rfl, rfl⟩ | exact ⟨rfl, rfl, rfl, rfl⟩ | exact ⟨rfl, rfl, rfl, rfl, rfl⟩ | exact congrArg (fun z : Int => E.v (.int .i64 z)) (wrap64_id (by omega) (by omega)) | (refine ⟨rfl, ?_⟩; repeat' first | exact trivial | rfl | apply And.intro)) (memOk_box rfl rfl rfl trivial)) ?_
    have hw : IntKind.i64.wrap (1 + 8) = 9 := by decide
    repeat' (first | refine tr_seq ?_ | refine reg (T := tab) tOk hnt rfl ?_ ?_ | refine regD (T := tab) tOk mixedR hnt rfl (by decide +kernel) ?_ ?_ | refine tr_block ?_ | refine tr_skip ?_)
    · (dsimp only [AllP]; (repeat' first | exact trivial | assumption | exact Nat.le_of_ble_eq_true rfl | apply And.intro | decide | intro _ | exact rfl))
    rw [hw]
    repeat' (first | refine tr_seq ?_ | refine tr_block ?_ | refine tr_skip ?_)
    refine tr_cond rfl (fun hc => ?_) (fun hc => ?_)
    · have hc : decide (((strB (3 :: r)).size : Int) < 9) = true := hc
      simp only [condT_tt, condT_ff, condF_tt, condF_ff, notE_t, notE_f, decide_eq_true_eq, decide_eq_false_iff_not] at hc
      (try simp only [hl] at hc)
      (try simp only [condT_tt, condT_ff, condF_tt, condF_ff, notE_t, notE_f, decide_eq_true_eq, decide_eq_false_iff_not] at hc)
      rw [hE, if_pos (by omega)]
      repeat' (first | refine tr_seq ?_ | refine reg (T := tab) tOk hnt rfl ?_ ?_ | refine regD (T := tab) tOk mixedR hnt rfl (by decide +kernel) ?_ ?_ | refine tr_block ?_ | refine tr_skip ?_)
      · (dsimp only [AllP]; (repeat' first | exact trivial | assumption | exact Nat.le_of_ble_eq_true rfl | apply And.intro | decide | intro _ | exact rfl))
      refine tr_ret ⟨.inr rfl, _, _, rfl, by (repeat' first | exact trivial | exact Nat.le_of_ble_eq_true rfl | apply And.intro), ?_⟩
      exact rfl
    have hc : decide (((strB (3 :: r)).size : Int) < 9) = false := hc
    simp only [condT_tt, condT_ff, condF_tt, condF_ff, notE_t, notE_f, decide_eq_true_eq, decide_eq_false_iff_not] at hc
    (try simp only [hl] at hc)
    (try simp only [condT_tt, condT_ff, condF_tt, condF_ff, notE_t, notE_f, decide_eq_true_eq, decide_eq_false_iff_not] at hc)
    rw [hE, if_neg (by omega)]
    clear hE
    repeat' (first | refine tr_seq ?_ | refine tr_block ?_ | refine tr_skip ?_)
    refine tr_region (lex (T := tab) tOk hnt rfl ?_ (call rfl rfl rfl rfl rfl rfl rfl hnt (number_sl 3 r 8 9 rfl (by omega)) (lex (T := tab) tOk hnt rfl ?_ (Lex.nil _)))) ?_
    · rw [hl, hw]
      (dsimp only [AllP]; (repeat' first | exact trivial | assumption | exact Nat.le_of_ble_eq_true rfl | apply And.intro | exact eCells_len1 _ _ ‹_› | exact eCells_isByte _ _ ‹_› | (intro hh_; have hg_ := hh_; (try simp only [condT_ff, condF_tt, notE_t, notE_f, Bool.and_eq_true, ne_eq, decide_eq_true_eq, decide_eq_false_iff_not] at hg_)) | intro _ | exact rfl | omega))
    · (dsimp only [AllP]; (repeat' first | exact trivial | assumption | exact Nat.le_of_ble_eq_true rfl | apply And.intro | decide | intro _ | exact rfl))
    generalize hnm : nmF (r.take 8) = n
    repeat' (first | refine tr_seq ?_ | refine reg (T := tab) tOk hnt rfl ?_ ?_ | refine regD (T := tab) tOk mixedR hnt rfl (by decide +kernel) ?_ ?_ | refine tr_block ?_ | refine tr_skip ?_)
    · (dsimp only [AllP]; (repeat' first | exact trivial | assumption | exact Nat.le_of_ble_eq_true rfl | apply And.intro | decide | intro _ | exact rfl))
    · (dsimp only [AllP]; (repeat' first | exact trivial | assumption | exact Nat.le_of_ble_eq_true rfl | apply And.intro | decide | intro _ | exact rfl))
    · (dsimp only [AllP]; (repeat' first | exact trivial | assumption | exact Nat.le_of_ble_eq_true rfl | apply And.intro | decide | intro _ | exact rfl))
    clear hnm
    repeat' (first | refine tr_seq ?_ | refine tr_block ?_ | refine tr_skip ?_)
    refine tr_cond rfl (fun hc => ?_) (fun hc => ?_)
    · exact absurd (show false = true from hc) (by decide)
    repeat' (first | refine tr_seq ?_ | refine reg (T := tab) tOk hnt rfl ?_ ?_ | refine regD (T := tab) tOk mixedR hnt rfl (by decide +kernel) ?_ ?_ | refine tr_block ?_ | refine tr_skip ?_)
    · (dsimp only [AllP]; (repeat' first | exact trivial | assumption | exact Nat.le_of_ble_eq_true rfl | apply And.intro | decide | intro _ | exact rfl))
    repeat' (first | refine tr_seq ?_ | refine tr_block ?_ | refine tr_skip ?_)
    refine tr_cond rfl (fun hc => ?_) (fun hc => ?_)
    · repeat' (first | refine tr_seq ?_ | refine reg (T := tab) tOk hnt rfl ?_ ?_ | refine regD (T := tab) tOk mixedR hnt rfl (by decide +kernel) ?_ ?_ | refine tr_block ?_ | refine tr_skip ?_)
      · (dsimp only [AllP]; (repeat' first | exact trivial | assumption | exact Nat.le_of_ble_eq_true rfl | apply And.intro | decide | intro _ | exact rfl))
      rw [q_subtop]
      have hvo := val_ok 2 (viF n) 0#64 [] (by decide) (i64_range _)
      have hvi : IntKind.i64.wrap ((n + topQ).toNat : Int) = viF n := by unfold viF; rw [xor_top]
      rw [hvi]
      clear hvi
      repeat' (first | refine tr_seq ?_ | refine tr_block ?_ | refine tr_skip ?_)
      refine tr_le (s' := St.of [(0, .one (.e (eT (3 :: r)))), (2, .one (.ptr 2 0 0)), (5, .one (.e (eI 2))), (7, .one (.e (eI 8))), (9, .one (.ptr 9 0 0)), ((1000000 + 0), .one (.eptr fsE)), ((1000000 + 1), .one (.eptr acE))] [(2, ⟨0, .box (.es (eVal val0)), 0⟩), (9, ⟨0, .box (.es (eVal (⟨2, viF n, 0#64, []⟩ : Val))), 0⟩)]) (le_of (ad := []) (by refine ⟨?_, ?_, ?_, ?_, ?_, ?_, ?_, trivial⟩ <;> first | exact trivial | rfl | exact ⟨rfl, rfl⟩ | exact ⟨rfl, rfl, rfl⟩ | exact ⟨rfl, rfl, rfl, rfl⟩ | exact ⟨rfl, rfl, rfl, rfl, rfl⟩ | exact congrArg (fun z : Int => E.v (.int .i64 z)) (wrap64_id (by omega) (by omega)) | (refine ⟨rfl, ?_⟩; repeat' first | exact trivial | rfl | apply And.intro)) (memOk_box rfl rfl rfl (memOk_box rfl rfl rfl trivial))) ?_
      repeat' (first | refine tr_seq ?_ | refine tr_block ?_ | refine tr_skip ?_)
      refine tr_region (lex (T := tab) tOk hnt rfl ?_ (callV rfl rfl rfl rfl rfl rfl rfl hnt rfl (fault_fn (⟨2, viF n, 0#64, []⟩ : Val) hvo) (lex (T := tab) tOk hnt rfl ?_ (Lex.nil _)))) ?_
      · (dsimp only [AllP]; (repeat' first | exact trivial | assumption | exact Nat.le_of_ble_eq_true rfl | apply And.intro | decide | intro _ | exact rfl))
      · (dsimp only [AllP]; (repeat' first | exact trivial | assumption | exact Nat.le_of_ble_eq_true rfl | apply And.intro | decide | intro _ | exact rfl))
      unfold fin
      repeat' (first | refine tr_seq ?_ | refine tr_block ?_ | refine tr_skip ?_)
      refine tr_cond rfl (fun hc => ?_) (fun hc => ?_)
      · have hc : (!decide (chk (⟨2, viF n, 0#64, []⟩ : Val) = 0)) = true := hc
        simp only [condT_tt, condT_ff, condF_tt, condF_ff, notE_t, notE_f, decide_eq_true_eq, decide_eq_false_iff_not] at hc
        rw [if_pos hc]
        repeat' (first | refine tr_seq ?_ | refine reg (T := tab) tOk hnt rfl ?_ ?_ | refine regD (T := tab) tOk mixedR hnt rfl (by decide +kernel) ?_ ?_ | refine tr_block ?_ | refine tr_skip ?_)
        · (dsimp only [AllP]; (repeat' first | exact trivial | assumption | exact Nat.le_of_ble_eq_true rfl | apply And.intro | decide | intro _ | exact rfl))
        refine tr_ret ⟨.inr rfl, _, _, rfl, by (repeat' first | exact trivial | exact Nat.le_of_ble_eq_true rfl | apply And.intro), ?_⟩
        exact rfl
      have hc : (!decide (chk (⟨2, viF n, 0#64, []⟩ : Val) = 0)) = false := hc
      simp only [condT_tt, condT_ff, condF_tt, condF_ff, notE_t, notE_f, decide_eq_true_eq, decide_eq_false_iff_not] at hc
      rw [if_neg (not_not_intro hc)]
      repeat' (first | refine tr_seq ?_ | refine reg (T := tab) tOk hnt rfl ?_ ?_ | refine regD (T := tab) tOk mixedR hnt rfl (by decide +kernel) ?_ ?_ | refine tr_block ?_ | refine tr_skip ?_)
      · (dsimp only [AllP]; (repeat' first | exact trivial | assumption | exact Nat.le_of_ble_eq_true rfl | apply And.intro | decide | intro _ | exact rfl))
      rw [hw]
      refine tr_ret ⟨.inr rfl, _, _, rfl, by (repeat' first | exact trivial | exact Nat.le_of_ble_eq_true rfl | apply And.intro), ?_⟩
      exact rfl
    exact absurd (show true = false from hc) (by decide)
  · have hE := rd_4 r
    rw [show ((UInt8.toNat 4 : Nat) : Int) - 1 = 3 from rfl]
    repeat' (first | refine tr_seq ?_ | refine reg (T := tab) tOk hnt rfl ?_ ?_ | refine regD (T := tab) tOk mixedR hnt rfl (by decide +kernel) ?_ ?_ | refine tr_block ?_ | refine tr_skip ?_)
    · (dsimp only [AllP]; (repeat' first | exact trivial | assumption | exact Nat.le_of_ble_eq_true rfl | apply And.intro | decide | intro _ | exact rfl))
    repeat' (first | refine tr_seq ?_ | refine tr_block ?_ | refine tr_skip ?_)
    refine tr_cond rfl (fun hc => ?_) (fun hc => ?_)
    · exact absurd (show false = true from hc) (by decide)
    repeat' (first | refine tr_seq ?_ | refine tr_block ?_ | refine tr_skip ?_)
    first | refine reg (T := tab) tOk hnt rfl ?_ ?_ | refine regD (T := tab) tOk mixedR hnt rfl (by decide +kernel) ?_ ?_
    · (dsimp only [AllP]; (repeat' first | exact trivial | assumption | exact Nat.le_of_ble_eq_true rfl | apply And.intro | exact eCells_len1 _ _ ‹_› | exact eCells_isByte _ _ ‹_› | (intro hh_; have hg_ := hh_; (try simp only [condT_ff, condF_tt, notE_t, notE_f, Bool.and_eq_true, ne_eq, decide_eq_true_eq, decide_eq_false_iff_not] at hg_)) | intro _ | exact rfl | omega))
      all_goals decide
    refine tr_le (s' := St.of [(0, .one (.e (eT (4 :: r)))), (2, .one (.ptr 2 0 0)), (5, .one (.e (eI 3))), (7, .one (.e (eI 8))), ((1000000 + 0), .one (.eptr fsE)), ((1000000 + 1), .one (.eptr acE))] [(2, ⟨0, .box (.es (eVal val0)), 0⟩)]) (le_of (ad := []) (by refine ⟨?_, ?_, ?_, ?_, ?_, ?_, trivial⟩ <;> first | exact trivial | rfl | exact ⟨rfl, rfl⟩ | exact ⟨rfl, rfl, rfl⟩ | exact ⟨rfl, rfl, rfl, rfl⟩ | exact ⟨rfl, rfl, rfl, rfl, rfl⟩ | exact congrArg (fun z : Int => E.v (.int .i64 z)) (wrap64_id (by omega) (by omega)) | (refine ⟨rfl, ?_⟩; repeat' first | exact trivial | rfl | apply And.intro)) (memOk_box rfl rfl rfl trivial)) ?_
    have hw : IntKind.i64.wrap (1 + 8) = 9 := by decide
    repeat' (first | refine tr_seq ?_ | refine reg (T := tab) tOk hnt rfl ?_ ?_ | refine regD (T := tab) tOk mixedR hnt rfl (by decide +kernel) ?_ ?_ | refine tr_block ?_ | refine tr_skip ?_)
    · (dsimp only [AllP]; (repeat' first | exact trivial | assumption | exact Nat.le_of_ble_eq_true rfl | apply And.intro | decide | intro _ | exact rfl))
    rw [hw]
    repeat' (first | refine tr_seq ?_ | refine tr_block ?_ | refine tr_skip ?_)
    refine tr_cond rfl (fun hc => ?_) (fun hc => ?_)
    · have hc : decide (((strB (4 :: r)).size : Int) < 9) = true := hc
      simp only [condT_tt, condT_ff, condF_tt, condF_ff, notE_t, notE_f, decide_eq_true_eq, decide_eq_false_iff_not] at hc
      (try simp only [hl] at hc)
      (try simp only [condT_tt, condT_ff, condF_tt, condF_ff, notE_t, notE_f, decide_eq_true_eq, decide_eq_false_iff_not] at hc)
      rw [hE, if_pos (by omega)]
      repeat' (first | refine tr_seq ?_ | refine reg (T := tab) tOk hnt rfl ?_ ?_ | refine regD (T := tab) tOk mixedR hnt rfl (by decide +kernel) ?_ ?_ | refine tr_block ?_ | refine tr_skip ?_)
      · (dsimp only [AllP]; (repeat' first | exact trivial | assumption | exact Nat.le_of_ble_eq_true rfl | apply And.intro | decide | intro _ | exact rfl))
      refine tr_ret ⟨.inr rfl, _, _, rfl, by (repeat' first | exact trivial | exact Nat.le_of_ble_eq_true rfl | apply And.intro), ?_⟩
      exact rfl
    have hc : decide (((strB (4 :: r)).size : Int) < 9) = false := hc
    simp only [condT_tt, condT_ff, condF_tt, condF_ff, notE_t, notE_f, decide_eq_true_eq, decide_eq_false_iff_not] at hc
    (try simp only [hl] at hc)
    (try simp only [condT_tt, condT_ff, condF_tt, condF_ff, notE_t, notE_f, decide_eq_true_eq, decide_eq_false_iff_not] at hc)
    rw [hE, if_neg (by omega)]
    clear hE
    repeat' (first | refine tr_seq ?_ | refine tr_block ?_ | refine tr_skip ?_)
    refine tr_region (lex (T := tab) tOk hnt rfl ?_ (call rfl rfl rfl rfl rfl rfl rfl hnt (number_sl 4 r 8 9 rfl (by omega)) (lex (T := tab) tOk hnt rfl ?_ (Lex.nil _)))) ?_
    · rw [hl, hw]
      (dsimp only [AllP]; (repeat' first | exact trivial | assumption | exact Nat.le_of_ble_eq_true rfl | apply And.intro | exact eCells_len1 _ _ ‹_› | exact eCells_isByte _ _ ‹_› | (intro hh_; have hg_ := hh_; (try simp only [condT_ff, condF_tt, notE_t, notE_f, Bool.and_eq_true, ne_eq, decide_eq_true_eq, decide_eq_false_iff_not] at hg_)) | intro _ | exact rfl | omega))
    · (dsimp only [AllP]; (repeat' first | exact trivial | assumption | exact Nat.le_of_ble_eq_true rfl | apply And.intro | decide | intro _ | exact rfl))
    generalize hnm : nmF (r.take 8) = n
    repeat' (first | refine tr_seq ?_ | refine reg (T := tab) tOk hnt rfl ?_ ?_ | refine regD (T := tab) tOk mixedR hnt rfl (by decide +kernel) ?_ ?_ | refine tr_block ?_ | refine tr_skip ?_)
    · (dsimp only [AllP]; (repeat' first | exact trivial | assumption | exact Nat.le_of_ble_eq_true rfl | apply And.intro | decide | intro _ | exact rfl))
    · (dsimp only [AllP]; (repeat' first | exact trivial | assumption | exact Nat.le_of_ble_eq_true rfl | apply And.intro | decide | intro _ | exact rfl))
    · (dsimp only [AllP]; (repeat' first | exact trivial | assumption | exact Nat.le_of_ble_eq_true rfl | apply And.intro | decide | intro _ | exact rfl))
    clear hnm
    have hvo := val_ok 3 0 (bkF n) [] (by decide) (by decide)
    repeat' (first | refine tr_seq ?_ | refine tr_block ?_ | refine tr_skip ?_)
    refine tr_cond rfl (fun hc => ?_) (fun hc => ?_)
    · exact absurd (show false = true from hc) (by decide)
    repeat' (first | refine tr_seq ?_ | refine reg (T := tab) tOk hnt rfl ?_ ?_ | refine regD (T := tab) tOk mixedR hnt rfl (by decide +kernel) ?_ ?_ | refine tr_block ?_ | refine tr_skip ?_)
    · (dsimp only [AllP]; (repeat' first | exact trivial | assumption | exact Nat.le_of_ble_eq_true rfl | apply And.intro | decide | intro _ | exact rfl))
    repeat' (first | refine tr_seq ?_ | refine tr_block ?_ | refine tr_skip ?_)
    refine tr_cond rfl (fun hc => ?_) (fun hc => ?_)
    · exact absurd (show false = true from hc) (by decide)
    repeat' (first | refine tr_seq ?_ | refine reg (T := tab) tOk hnt rfl ?_ ?_ | refine regD (T := tab) tOk mixedR hnt rfl (by decide +kernel) ?_ ?_ | refine tr_block ?_ | refine tr_skip ?_)
    · (dsimp only [AllP]; (repeat' first | exact trivial | assumption | exact Nat.le_of_ble_eq_true rfl | apply And.intro | decide | intro _ | exact rfl))
    repeat' (first | refine tr_seq ?_ | refine tr_block ?_ | refine tr_skip ?_)
    refine tr_cond rfl (fun hc => ?_) (fun hc => ?_)
    · repeat' (first | refine tr_seq ?_ | refine reg (T := tab) tOk hnt rfl ?_ ?_ | refine regD (T := tab) tOk mixedR hnt rfl (by decide +kernel) ?_ ?_ | refine tr_block ?_ | refine tr_skip ?_)
      · (dsimp only [AllP]; (repeat' first | exact trivial | assumption | exact Nat.le_of_ble_eq_true rfl | apply And.intro | decide | intro _ | exact rfl))
      · (dsimp only [AllP]; (repeat' first | exact trivial | assumption | exact Nat.le_of_ble_eq_true rfl | apply And.intro | decide | intro _ | exact rfl))
      rw [q_subtop]
      repeat' (first | refine tr_seq ?_ | refine tr_block ?_ | refine tr_skip ?_)
      refine tr_cond rfl (fun hc => ?_) (fun hc => ?_)
      · simp only [condT_tt, condT_ff, condF_tt, condF_ff, notE_t, notE_f, decide_eq_true_eq, decide_eq_false_iff_not] at hc
        have hbk : bkF n = ~~~n := by unfold bkF; rw [if_pos (by omega)]
        rw [hbk] at hvo ⊢
        clear hbk
        repeat' (first | refine tr_seq ?_ | refine reg (T := tab) tOk hnt rfl ?_ ?_ | refine regD (T := tab) tOk mixedR hnt rfl (by decide +kernel) ?_ ?_ | refine tr_block ?_ | refine tr_skip ?_)
        · (dsimp only [AllP]; (repeat' first | exact trivial | assumption | exact Nat.le_of_ble_eq_true rfl | apply And.intro | decide | intro _ | exact rfl))
        have hn : IntKind.u64.wrap ((BitVec.ofInt IntKind.u64.bits (if IntKind.u64.signed = true then -1 else IntKind.u64.max) ^^^ BitVec.ofInt IntKind.u64.bits (n.toNat : Int)).toNat : Int) = ((~~~n).toNat : Int) := q_not n
        rw [hn]
        clear hn
        repeat' (first | refine tr_seq ?_ | refine tr_block ?_ | refine tr_skip ?_)
        refine tr_le (s' := St.of [(0, .one (.e (eT (4 :: r)))), (2, .one (.ptr 2 0 0)), (5, .one (.e (eI 3))), (7, .one (.e (eI 8))), (9, .one (.ptr 9 0 0)), ((1000000 + 0), .one (.eptr fsE)), ((1000000 + 1), .one (.eptr acE))] [(2, ⟨0, .box (.es (eVal val0)), 0⟩), (9, ⟨0, .box (.es (eVal (⟨3, 0, ~~~n, []⟩ : Val))), 0⟩)]) (le_of (ad := []) (by refine ⟨?_, ?_, ?_, ?_, ?_, ?_, ?_, trivial⟩ <;> first | exact trivial | rfl | exact ⟨rfl, rfl⟩ | exact ⟨rfl, rfl, rfl⟩ | exact ⟨rfl, rfl, rfl, rfl⟩ | exact ⟨rfl, rfl, rfl, rfl, rfl⟩ | exact congrArg (fun z : Int => E.v (.int .i64 z)) (wrap64_id (by omega) (by omega)) | (refine ⟨rfl, ?_⟩; repeat' first | exact trivial | rfl | apply And.intro)) (memOk_box rfl rfl rfl (memOk_box rfl rfl rfl trivial))) ?_
        repeat' (first | refine tr_seq ?_ | refine tr_block ?_ | refine tr_skip ?_)
        refine tr_region (lex (T := tab) tOk hnt rfl ?_ (callV rfl rfl rfl rfl rfl rfl rfl hnt rfl (fault_fn (⟨3, 0, ~~~n, []⟩ : Val) hvo) (lex (T := tab) tOk hnt rfl ?_ (Lex.nil _)))) ?_
        · (dsimp only [AllP]; (repeat' first | exact trivial | assumption | exact Nat.le_of_ble_eq_true rfl | apply And.intro | decide | intro _ | exact rfl))
        · (dsimp only [AllP]; (repeat' first | exact trivial | assumption | exact Nat.le_of_ble_eq_true rfl | apply And.intro | decide | intro _ | exact rfl))
        unfold fin
        repeat' (first | refine tr_seq ?_ | refine tr_block ?_ | refine tr_skip ?_)
        refine tr_cond rfl (fun hc => ?_) (fun hc => ?_)
        · have hc : (!decide (chk (⟨3, 0, ~~~n, []⟩ : Val) = 0)) = true := hc
          simp only [condT_tt, condT_ff, condF_tt, condF_ff, notE_t, notE_f, decide_eq_true_eq, decide_eq_false_iff_not] at hc
          rw [if_pos hc]
          repeat' (first | refine tr_seq ?_ | refine reg (T := tab) tOk hnt rfl ?_ ?_ | refine regD (T := tab) tOk mixedR hnt rfl (by decide +kernel) ?_ ?_ | refine tr_block ?_ | refine tr_skip ?_)
          · (dsimp only [AllP]; (repeat' first | exact trivial | assumption | exact Nat.le_of_ble_eq_true rfl | apply And.intro | decide | intro _ | exact rfl))
          refine tr_ret ⟨.inr rfl, _, _, rfl, by (repeat' first | exact trivial | exact Nat.le_of_ble_eq_true rfl | apply And.intro), ?_⟩
          exact rfl
        have hc : (!decide (chk (⟨3, 0, ~~~n, []⟩ : Val) = 0)) = false := hc
        simp only [condT_tt, condT_ff, condF_tt, condF_ff, notE_t, notE_f, decide_eq_true_eq, decide_eq_false_iff_not] at hc
        rw [if_neg (not_not_intro hc)]
        repeat' (first | refine tr_seq ?_ | refine reg (T := tab) tOk hnt rfl ?_ ?_ | refine regD (T := tab) tOk mixedR hnt rfl (by decide +kernel) ?_ ?_ | refine tr_block ?_ | refine tr_skip ?_)
        · (dsimp only [AllP]; (repeat' first | exact trivial | assumption | exact Nat.le_of_ble_eq_true rfl | apply And.intro | decide | intro _ | exact rfl))
        rw [hw]
        refine tr_ret ⟨.inr rfl, _, _, rfl, by (repeat' first | exact trivial | exact Nat.le_of_ble_eq_true rfl | apply And.intro), ?_⟩
        exact rfl
      simp only [condT_tt, condT_ff, condF_tt, condF_ff, notE_t, notE_f, decide_eq_true_eq, decide_eq_false_iff_not] at hc
      have hbk : bkF n = n + topQ := by unfold bkF; rw [if_neg (by omega)]
      rw [hbk] at hvo ⊢
      clear hbk
      generalize n + topQ = m at *
      repeat' (first | refine tr_seq ?_ | refine tr_block ?_ | refine tr_skip ?_)
      refine tr_le (s' := St.of [(0, .one (.e (eT (4 :: r)))), (2, .one (.ptr 2 0 0)), (5, .one (.e (eI 3))), (7, .one (.e (eI 8))), (9, .one (.ptr 9 0 0)), ((1000000 + 0), .one (.eptr fsE)), ((1000000 + 1), .one (.eptr acE))] [(2, ⟨0, .box (.es (eVal val0)), 0⟩), (9, ⟨0, .box (.es (eVal (⟨3, 0, m, []⟩ : Val))), 0⟩)]) (le_of (ad := []) (by refine ⟨?_, ?_, ?_, ?_, ?_, ?_, ?_, trivial⟩ <;> first | exact trivial | rfl | exact ⟨rfl, rfl⟩ | exact ⟨rfl, rfl, rfl⟩ | exact ⟨rfl, rfl, rfl, rfl⟩ | exact ⟨rfl, rfl, rfl, rfl, rfl⟩ | exact congrArg (fun z : Int => E.v (.int .i64 z)) (wrap64_id (by omega) (by omega)) | (refine ⟨rfl, ?_⟩; repeat' first | exact trivial | rfl | apply And.intro)) (memOk_box rfl rfl rfl (memOk_box rfl rfl rfl trivial))) ?_
      repeat' (first | refine tr_seq ?_ | refine tr_block ?_ | refine tr_skip ?_)
      refine tr_region (lex (T := tab) tOk hnt rfl ?_ (callV rfl rfl rfl rfl rfl rfl rfl hnt rfl (fault_fn (⟨3, 0, m, []⟩ : Val) hvo) (lex (T := tab) tOk hnt rfl ?_ (Lex.nil _)))) ?_
      · (dsimp only [AllP]; (repeat' first | exact trivial | assumption | exact Nat.le_of_ble_eq_true rfl | apply And.intro | decide | intro _ | exact rfl))
      · (dsimp only [AllP]; (repeat' first | exact trivial | assumption | exact Nat.le_of_ble_eq_true rfl | apply And.intro | decide | intro _ | exact rfl))
      unfold fin
      repeat' (first | refine tr_seq ?_ | refine tr_block ?_ | refine tr_skip ?_)
      refine tr_cond rfl (fun hc => ?_) (fun hc => ?_)
      · have hc : (!decide (chk (⟨3, 0, m, []⟩ : Val) = 0)) = true := hc
        simp only [condT_tt, condT_ff, condF_tt, condF_ff, notE_t, notE_f, decide_eq_true_eq, decide_eq_false_iff_not] at hc
        rw [if_pos hc]
        repeat' (first | refine tr_seq ?_ | refine reg (T := tab) tOk hnt rfl ?_ ?_ | refine regD (T := tab) tOk mixedR hnt rfl (by decide +kernel) ?_ ?_ | refine tr_block ?_ | refine tr_skip ?_)
        · (dsimp only [AllP]; (repeat' first | exact trivial | assumption | exact Nat.le_of_ble_eq_true rfl | apply And.intro | decide | intro _ | exact rfl))
        refine tr_ret ⟨.inr rfl, _, _, rfl, by (repeat' first | exact trivial | exact Nat.le_of_ble_eq_true rfl | apply And.intro), ?_⟩
        exact rfl
      have hc : (!decide (chk (⟨3, 0, m, []⟩ : Val) = 0)) = false := hc
      simp only [condT_tt, condT_ff, condF_tt, condF_ff, notE_t, notE_f, decide_eq_true_eq, decide_eq_false_iff_not] at hc
      rw [if_neg (not_not_intro hc)]
      repeat' (first | refine tr_seq ?_ | refine reg (T := tab) tOk hnt rfl ?_ ?_ | refine regD (T := tab) tOk mixedR hnt rfl (by decide +kernel) ?_ ?_ | refine tr_block ?_ | refine tr_skip ?_)
      · (dsimp only [AllP]; (repeat' first | exact trivial | assumption | exact Nat.le_of_ble_eq_true rfl | apply And.intro | decide | intro _ | exact rfl))
      rw [hw]
      refine tr_ret ⟨.inr rfl, _, _, rfl, by (repeat' first | exact trivial | exact Nat.le_of_ble_eq_true rfl | apply And.intro), ?_⟩
      exact rfl
    exact absurd (show true = false from hc) (by decide)
end Go.Proofs.YtcjeeoimjkhijaaDoor
namespace Go.Proofs.YtcjeeoimjkhijaaDoor
open Go Go.RowKit Go.Proofs.YtcjeeoimjkhijaaDoor.Ab
set_option linter.unusedSimpArgs false
set_option linter.unusedVariables false

theorem sv_zero (b : Byt) (a : Nat) : sv b a 0 = b.drop a := by
  unfold sv
  have h : (fun x : UInt8 => x ^^^ 0) = id := by
    funext x
    exact UInt8.xor_zero
  rw [h, List.map_id]
theorem flB_eq : ∀ c : UInt8, flB c = c ^^^ 255 := by
  intro c
  unfold flB
  apply UInt8.toBitVec_inj.1
  rw [UInt8.toBitVec_not, UInt8.toBitVec_xor]
  exact (BitVec.xor_allOnes).symm
theorem sv_down (b : Byt) (a : Nat) : sv b a 255 = (b.drop a).map flB := by
  unfold sv
  have h : (fun x : UInt8 => x ^^^ 255) = flB := by
    funext x
    exact (flB_eq x).symm
  rw [h]
set_option maxRecDepth 10000 in
set_option maxHeartbeats 2000000 in
theorem RowOf_fn (b : List UInt8) (n d : Int) (hb : b.length ≤ maxLen) : FnG Tryd.prog 20 gK [.one (.e (eBytes b)), .one (.e (eI n)), .one (.e (eI d))] (rD (decF b n d)) := by
  refine fn_introG (T := tab) tOk Tryd.func20 rfl (by kernel_rfl) (by simp [Tryd.ntmps20]) ?_
  intro X hX
  have hnt : X.nt = 53 := hX
  clear hX
  have hbb := eCells_isByte b
  have hb' : b.length ≤ 9223372036854775807 := hb
  unfold decF
  repeat' (first | refine tr_seq ?_ | refine reg (T := tab) tOk hnt rfl ?_ ?_ | refine regD (T := tab) tOk mixedR hnt rfl (by decide +kernel) ?_ ?_ | refine tr_block ?_ | refine tr_skip ?_)
  · (dsimp only [AllP]; (repeat' first | exact trivial | assumption | exact Nat.le_of_ble_eq_true rfl | apply And.intro | decide | intro _ | exact rfl))
  · (dsimp only [AllP]; (repeat' first | exact trivial | assumption | exact Nat.le_of_ble_eq_true rfl | apply And.intro | decide | intro _ | exact rfl))
  repeat' (first | refine tr_seq ?_ | refine tr_block ?_ | refine tr_skip ?_)
  refine tr_cond rfl (fun hc => ?_) (fun hc => ?_)
  · simp only [condT_tt, condT_ff, condF_tt, condF_ff, notE_t, notE_f, decide_eq_true_eq, decide_eq_false_iff_not] at hc
    rw [if_pos hc]
    repeat' (first | refine tr_seq ?_ | refine reg (T := tab) tOk hnt rfl ?_ ?_ | refine regD (T := tab) tOk mixedR hnt rfl (by decide +kernel) ?_ ?_ | refine tr_block ?_ | refine tr_skip ?_)
    · (dsimp only [AllP]; (repeat' first | exact trivial | assumption | exact Nat.le_of_ble_eq_true rfl | apply And.intro | decide | intro _ | exact rfl))
    refine tr_ret ⟨.inr rfl, _, _, rfl, by (repeat' first | exact trivial | exact Nat.le_of_ble_eq_true rfl | apply And.intro), ?_⟩
    exact rfl
  simp only [condT_tt, condT_ff, condF_tt, condF_ff, notE_t, notE_f, decide_eq_true_eq, decide_eq_false_iff_not] at hc
  rw [if_neg (by omega)]
  generalize hR : dcG b d n.toNat 0 0 = R at *
  obtain ⟨r1, r2, r3⟩ := R
  dsimp only
  repeat' (first | refine tr_seq ?_ | refine tr_block ?_ | refine tr_skip ?_)
  first | refine reg (T := tab) tOk hnt rfl ?_ ?_ | refine regD (T := tab) tOk mixedR hnt rfl (by decide +kernel) ?_ ?_
  · (dsimp only [AllP]; (repeat' first | exact trivial | exact Nat.le_of_ble_eq_true rfl | apply And.intro | exact rfl | exact eCells_isByte _))
  repeat' (first | refine tr_seq ?_ | refine reg (T := tab) tOk hnt rfl ?_ ?_ | refine regD (T := tab) tOk mixedR hnt rfl (by decide +kernel) ?_ ?_ | refine tr_block ?_ | refine tr_skip ?_)
  · (dsimp only [AllP]; (repeat' first | exact trivial | assumption | exact Nat.le_of_ble_eq_true rfl | apply And.intro | decide | intro _ | exact rfl))
  · (dsimp only [AllP]; (repeat' first | exact trivial | assumption | exact Nat.le_of_ble_eq_true rfl | apply And.intro | decide | intro _ | exact rfl))
  rw [bytesOf_eCells]
  repeat' (first | refine tr_seq ?_ | refine tr_block ?_ | refine tr_skip ?_)
  refine tr_loop (σ := Nat × Nat × List Val) (fun y => St.of [(1, .one (.e (eI n))), (2, .one (.e (eI d))), (8, .one (.e (eT (b.drop y.2.1)))), (9, .one (.own 46 0)), (10, .one (.e (eI (y.1 : Int)))), ((1000000 + 0), .one (.eptr fsE)), ((1000000 + 1), .one (.eptr acE))] [(46, ⟨0, .row 4 ((y.2.2).map eVal), 0⟩)]) (fun y => (dcG b d (n.toNat - y.1) y.1 y.2.1).2 = (r2, r3) ∧ (r2 = 0 → y.2.2 ++ (dcG b d (n.toNat - y.1) y.1 y.2.1).1 = r1) ∧ y.1 ≤ n.toNat ∧ y.2.1 ≤ b.length ∧ y.2.2.length = y.1) (fun y => n.toNat - y.1) ((0, 0, [])) (le_of (ad := [46]) (by refine ⟨?_, ?_, ?_, ?_, ?_, ?_, ?_, trivial⟩ <;> first | exact trivial | rfl | exact ⟨rfl, rfl⟩ | exact ⟨rfl, rfl, rfl⟩ | exact ⟨rfl, rfl, rfl, rfl⟩ | exact ⟨rfl, rfl, rfl, rfl, rfl⟩ | exact congrArg (fun z : Int => E.v (.int .i64 z)) (wrap64_id (by omega) (by omega)) | (refine ⟨rfl, ?_⟩; repeat' first | exact trivial | rfl | apply And.intro)) (memOk_new rfl (by decide) trivial)) ⟨by rw [Nat.sub_zero, hR], fun _ => by rw [Nat.sub_zero, hR]; rfl, Nat.zero_le _, Nat.zero_le _, rfl⟩ ?_
  rintro ⟨i, a, acc⟩ ⟨h1, h2, il, al, hal⟩
  dsimp only at h1 h2 il al hal ⊢
  repeat' (first | refine tr_seq ?_ | refine reg (T := tab) tOk hnt rfl ?_ ?_ | refine regD (T := tab) tOk mixedR hnt rfl (by decide +kernel) ?_ ?_ | refine tr_block ?_ | refine tr_skip ?_)
  · (dsimp only [AllP]; (repeat' first | exact trivial | assumption | exact Nat.le_of_ble_eq_true rfl | apply And.intro | decide | intro _ | exact rfl))
  repeat' (first | refine tr_seq ?_ | refine tr_block ?_ | refine tr_skip ?_)
  refine tr_cond rfl (fun hc => ?_) (fun hc => ?_)
  · simp only [condT_tt, condT_ff, condF_tt, condF_ff, notE_t, notE_f, decide_eq_true_eq, decide_eq_false_iff_not] at hc
    have hlt : i < n.toNat := by omega
    have hrl := rdF_le (sv b a (flp d i))
    rw [sv_len] at hrl
    rw [show n.toNat - i = (n.toNat - i - 1) + 1 by omega, dcG] at h1 h2
    have hdl : (b.drop a).length = b.length - a := List.length_drop
    have hbsz : (strB (b.drop a)).size = b.length - a := by rw [strB_size, hdl]
    repeat' (first | refine tr_seq ?_ | refine reg (T := tab) tOk hnt rfl ?_ ?_ | refine regD (T := tab) tOk mixedR hnt rfl (by decide +kernel) ?_ ?_ | refine tr_block ?_ | refine tr_skip ?_)
    · (dsimp only [AllP]; (repeat' first | exact trivial | assumption | exact Nat.le_of_ble_eq_true rfl | apply And.intro | decide | intro _ | exact rfl))
    repeat' (first | refine tr_seq ?_ | refine tr_block ?_ | refine tr_skip ?_)
    refine tr_region (lex (T := tab) tOk hnt rfl ?_ (call rfl rfl rfl rfl rfl rfl rfl hnt (downs_fn d i (by omega)) (lex (T := tab) tOk hnt rfl ?_ (Lex.nil _)))) ?_
    · (dsimp only [AllP]; (repeat' first | exact trivial | assumption | exact Nat.le_of_ble_eq_true rfl | apply And.intro | decide | intro _ | exact rfl))
    · (dsimp only [AllP]; (repeat' first | exact trivial | assumption | exact Nat.le_of_ble_eq_true rfl | apply And.intro | decide | intro _ | exact rfl))
    repeat' (first | refine tr_seq ?_ | refine tr_block ?_ | refine tr_skip ?_)
    refine tr_cond rfl (fun hc => ?_) (fun hc => ?_)
    · have hfl : flp d i = 255 := by unfold flp; rw [if_pos hc]
      repeat' (first | refine tr_seq ?_ | refine tr_block ?_ | refine tr_skip ?_)
      refine tr_region (lex (T := tab) tOk hnt rfl ?_ (call rfl rfl rfl rfl rfl rfl rfl hnt (flipped_fn (b.drop a) (by omega)) (lex (T := tab) tOk hnt rfl ?_ (Lex.nil _)))) ?_
      · (dsimp only [AllP]; (repeat' first | exact trivial | assumption | exact Nat.le_of_ble_eq_true rfl | apply And.intro | decide | intro _ | exact rfl))
      · (dsimp only [AllP]; (repeat' first | exact trivial | assumption | exact Nat.le_of_ble_eq_true rfl | apply And.intro | decide | intro _ | exact rfl))
      have hu := (sv_down b a).symm
      rw [← hfl] at hu
      clear hfl hc
      generalize hqq : rdF (sv b a (flp d i)) = q at *
      obtain ⟨q1, q2, q3⟩ := q
      dsimp only at hrl h1 h2
      by_cases hq : q2 = 0
      · have hv : FnG Tryd.prog 52 gK [.one (.e (eT (((b.drop a).map flB))))] (rW (q1, (q3 : Int), 0)) := by
          have h : FnG Tryd.prog 52 gK [.one (.e (eT (((b.drop a).map flB))))] (rW (rdV (rdF (sv b a (flp d i))))) := by rw [← hu]; exact valueOf_fn (((b.drop a).map flB)) (by first | omega | (rw [List.length_map]; omega))
          rw [hqq] at h
          unfold rdV at h
          rw [if_pos hq] at h
          exact h
        subst hq
        rw [if_neg (not_not_intro rfl)] at h1 h2
        repeat' (first | refine tr_seq ?_ | refine tr_block ?_ | refine tr_skip ?_)
        refine tr_region (lex (T := tab) tOk hnt rfl ?_ (callV rfl rfl rfl rfl rfl rfl rfl hnt rfl (hv) (lex (T := tab) tOk hnt rfl ?_ (Lex.nil _)))) ?_
        · (dsimp only [AllP]; (repeat' first | exact trivial | assumption | exact Nat.le_of_ble_eq_true rfl | apply And.intro | decide | intro _ | exact rfl))
        · (dsimp only [AllP]; (repeat' first | exact trivial | assumption | exact Nat.le_of_ble_eq_true rfl | apply And.intro | decide | intro _ | exact rfl))
        repeat' (first | refine tr_seq ?_ | refine reg (T := tab) tOk hnt rfl ?_ ?_ | refine regD (T := tab) tOk mixedR hnt rfl (by decide +kernel) ?_ ?_ | refine tr_block ?_ | refine tr_skip ?_)
        · (dsimp only [AllP]; (repeat' first | exact trivial | assumption | exact Nat.le_of_ble_eq_true rfl | apply And.intro | decide | intro _ | exact rfl))
        repeat' (first | refine tr_seq ?_ | refine tr_block ?_ | refine tr_skip ?_)
        refine tr_cond rfl (fun hc => ?_) (fun hc => ?_)
        · exact absurd (show false = true from hc) (by decide)
        have hq1 : ((acc.map eVal).length + [eVal q1].length) ≤ maxLen := by rw [List.length_map]; show acc.length + 1 ≤ maxLen; unfold maxLen; omega
        have hq2 : ((acc.map eVal).length + [eVal q1].length) * 40 ≤ 140737488355328 := by rw [List.length_map]; show (acc.length + 1) * 40 ≤ _; omega
        have hap : acc.map eVal ++ [eVal q1] = (acc ++ [q1]).map eVal := by rw [List.map_append]; rfl
        repeat' (first | refine tr_seq ?_ | refine tr_block ?_ | refine tr_skip ?_)
        first | refine reg (T := tab) tOk hnt rfl ?_ ?_ | refine regD (T := tab) tOk mixedR hnt rfl (by decide +kernel) ?_ ?_
        · (dsimp only [AllP]; (repeat' first | exact trivial | assumption | exact Nat.le_of_ble_eq_true rfl | apply And.intro | exact eCells_len1 _ _ ‹_› | exact eCells_isByte _ _ ‹_› | (intro hh_; have hg_ := hh_; (try simp only [condT_ff, condF_tt, notE_t, notE_f, Bool.and_eq_true, ne_eq, decide_eq_true_eq, decide_eq_false_iff_not] at hg_)) | intro _ | exact rfl | omega))
        repeat' (first | refine tr_seq ?_ | refine tr_block ?_ | refine tr_skip ?_)
        first | refine reg (T := tab) tOk hnt rfl ?_ ?_ | refine regD (T := tab) tOk mixedR hnt rfl (by decide +kernel) ?_ ?_
        · rw [hbsz]
          (dsimp only [AllP]; (repeat' first | exact trivial | assumption | exact Nat.le_of_ble_eq_true rfl | apply And.intro | exact eCells_len1 _ _ ‹_› | exact eCells_isByte _ _ ‹_› | (intro hh_; have hg_ := hh_; (try simp only [condT_ff, condF_tt, notE_t, notE_f, Bool.and_eq_true, ne_eq, decide_eq_true_eq, decide_eq_false_iff_not] at hg_)) | intro _ | exact rfl | omega))
        rw [strB_from, Int.toNat_natCast, List.drop_drop]
        repeat' (first | refine tr_seq ?_ | refine reg (T := tab) tOk hnt rfl ?_ ?_ | refine regD (T := tab) tOk mixedR hnt rfl (by decide +kernel) ?_ ?_ | refine tr_block ?_ | refine tr_skip ?_)
        · (dsimp only [AllP]; (repeat' first | exact trivial | assumption | exact Nat.le_of_ble_eq_true rfl | apply And.intro | decide | intro _ | exact rfl))
        refine ⟨(i + 1, a + q3, acc ++ [q1]), ⟨by dsimp only; rw [show n.toNat - (i + 1) = n.toNat - i - 1 by omega]; exact h1, by dsimp only; rw [show n.toNat - (i + 1) = n.toNat - i - 1 by omega]; intro hh; rw [List.append_assoc]; exact h2 hh, by dsimp only; omega, by dsimp only; omega, by dsimp only; rw [List.length_append]; show acc.length + 1 = i + 1; omega⟩, by dsimp only; omega, le_of (ad := []) (by refine ⟨?_, ?_, ?_, ?_, ?_, ?_, ?_, trivial⟩ <;> first | exact trivial | rfl | exact ⟨rfl, rfl⟩ | exact ⟨rfl, rfl, rfl⟩ | exact ⟨rfl, rfl, rfl, rfl⟩ | exact ⟨rfl, rfl, rfl, rfl, rfl⟩ | exact congrArg (fun z : Int => E.v (.int .i64 z)) (wrap64_id (by omega) (by omega)) | (refine ⟨rfl, ?_⟩; repeat' first | exact trivial | rfl | apply And.intro)) (memOk_row rfl rfl hap trivial)⟩
      have hv : FnG Tryd.prog 52 gK [.one (.e (eT (((b.drop a).map flB))))] (rW (val0, 0, q2)) := by
        have h : FnG Tryd.prog 52 gK [.one (.e (eT (((b.drop a).map flB))))] (rW (rdV (rdF (sv b a (flp d i))))) := by rw [← hu]; exact valueOf_fn (((b.drop a).map flB)) (by first | omega | (rw [List.length_map]; omega))
        rw [hqq] at h
        unfold rdV at h
        rw [if_neg hq] at h
        exact h
      rw [if_pos hq] at h1 h2
      have e2 : q2 = r2 := congrArg Prod.fst h1
      rw [if_pos (by rw [← e2]; exact hq), ← e2]
      repeat' (first | refine tr_seq ?_ | refine tr_block ?_ | refine tr_skip ?_)
      refine tr_region (lex (T := tab) tOk hnt rfl ?_ (callV rfl rfl rfl rfl rfl rfl rfl hnt rfl (hv) (lex (T := tab) tOk hnt rfl ?_ (Lex.nil _)))) ?_
      · (dsimp only [AllP]; (repeat' first | exact trivial | assumption | exact Nat.le_of_ble_eq_true rfl | apply And.intro | decide | intro _ | exact rfl))
      · (dsimp only [AllP]; (repeat' first | exact trivial | assumption | exact Nat.le_of_ble_eq_true rfl | apply And.intro | decide | intro _ | exact rfl))
      repeat' (first | refine tr_seq ?_ | refine reg (T := tab) tOk hnt rfl ?_ ?_ | refine regD (T := tab) tOk mixedR hnt rfl (by decide +kernel) ?_ ?_ | refine tr_block ?_ | refine tr_skip ?_)
      · (dsimp only [AllP]; (repeat' first | exact trivial | assumption | exact Nat.le_of_ble_eq_true rfl | apply And.intro | decide | intro _ | exact rfl))
      repeat' (first | refine tr_seq ?_ | refine tr_block ?_ | refine tr_skip ?_)
      refine tr_cond rfl (fun hc => ?_) (fun hc => ?_)
      · repeat' (first | refine tr_seq ?_ | refine reg (T := tab) tOk hnt rfl ?_ ?_ | refine regD (T := tab) tOk mixedR hnt rfl (by decide +kernel) ?_ ?_ | refine tr_block ?_ | refine tr_skip ?_)
        · (dsimp only [AllP]; (repeat' first | exact trivial | assumption | exact Nat.le_of_ble_eq_true rfl | apply And.intro | decide | intro _ | exact rfl))
        refine tr_ret ⟨.inr rfl, _, _, rfl, by (repeat' first | exact trivial | exact Nat.le_of_ble_eq_true rfl | apply And.intro), ?_⟩
        exact rfl
      have hc : (!decide (q2 = 0)) = false := hc
      simp only [condT_tt, condT_ff, condF_tt, condF_ff, notE_t, notE_f, decide_eq_true_eq, decide_eq_false_iff_not] at hc
      exact absurd hc hq
    have hfl : flp d i = 0 := by unfold flp; rw [if_neg (by rw [hc]; exact Bool.false_ne_true)]
    have hu := (sv_zero b a).symm
    rw [← hfl] at hu
    clear hfl hc
    repeat' (first | refine tr_seq ?_ | refine tr_block ?_ | refine tr_skip ?_)
    generalize hqq : rdF (sv b a (flp d i)) = q at *
    obtain ⟨q1, q2, q3⟩ := q
    dsimp only at hrl h1 h2
    by_cases hq : q2 = 0
    · have hv : FnG Tryd.prog 52 gK [.one (.e (eT ((b.drop a))))] (rW (q1, (q3 : Int), 0)) := by
        have h : FnG Tryd.prog 52 gK [.one (.e (eT ((b.drop a))))] (rW (rdV (rdF (sv b a (flp d i))))) := by rw [← hu]; exact valueOf_fn ((b.drop a)) (by first | omega | (rw [List.length_map]; omega))
        rw [hqq] at h
        unfold rdV at h
        rw [if_pos hq] at h
        exact h
      subst hq
      rw [if_neg (not_not_intro rfl)] at h1 h2
      repeat' (first | refine tr_seq ?_ | refine tr_block ?_ | refine tr_skip ?_)
      refine tr_region (lex (T := tab) tOk hnt rfl ?_ (callV rfl rfl rfl rfl rfl rfl rfl hnt rfl (hv) (lex (T := tab) tOk hnt rfl ?_ (Lex.nil _)))) ?_
      · (dsimp only [AllP]; (repeat' first | exact trivial | assumption | exact Nat.le_of_ble_eq_true rfl | apply And.intro | decide | intro _ | exact rfl))
      · (dsimp only [AllP]; (repeat' first | exact trivial | assumption | exact Nat.le_of_ble_eq_true rfl | apply And.intro | decide | intro _ | exact rfl))
      repeat' (first | refine tr_seq ?_ | refine reg (T := tab) tOk hnt rfl ?_ ?_ | refine regD (T := tab) tOk mixedR hnt rfl (by decide +kernel) ?_ ?_ | refine tr_block ?_ | refine tr_skip ?_)
      · (dsimp only [AllP]; (repeat' first | exact trivial | assumption | exact Nat.le_of_ble_eq_true rfl | apply And.intro | decide | intro _ | exact rfl))
      repeat' (first | refine tr_seq ?_ | refine tr_block ?_ | refine tr_skip ?_)
      refine tr_cond rfl (fun hc => ?_) (fun hc => ?_)
      · exact absurd (show false = true from hc) (by decide)
      have hq1 : ((acc.map eVal).length + [eVal q1].length) ≤ maxLen := by rw [List.length_map]; show acc.length + 1 ≤ maxLen; unfold maxLen; omega
      have hq2 : ((acc.map eVal).length + [eVal q1].length) * 40 ≤ 140737488355328 := by rw [List.length_map]; show (acc.length + 1) * 40 ≤ _; omega
      have hap : acc.map eVal ++ [eVal q1] = (acc ++ [q1]).map eVal := by rw [List.map_append]; rfl
      repeat' (first | refine tr_seq ?_ | refine tr_block ?_ | refine tr_skip ?_)
      first | refine reg (T := tab) tOk hnt rfl ?_ ?_ | refine regD (T := tab) tOk mixedR hnt rfl (by decide +kernel) ?_ ?_
      · (dsimp only [AllP]; (repeat' first | exact trivial | assumption | exact Nat.le_of_ble_eq_true rfl | apply And.intro | exact eCells_len1 _ _ ‹_› | exact eCells_isByte _ _ ‹_› | (intro hh_; have hg_ := hh_; (try simp only [condT_ff, condF_tt, notE_t, notE_f, Bool.and_eq_true, ne_eq, decide_eq_true_eq, decide_eq_false_iff_not] at hg_)) | intro _ | exact rfl | omega))
      repeat' (first | refine tr_seq ?_ | refine tr_block ?_ | refine tr_skip ?_)
      first | refine reg (T := tab) tOk hnt rfl ?_ ?_ | refine regD (T := tab) tOk mixedR hnt rfl (by decide +kernel) ?_ ?_
      · rw [hbsz]
        (dsimp only [AllP]; (repeat' first | exact trivial | assumption | exact Nat.le_of_ble_eq_true rfl | apply And.intro | exact eCells_len1 _ _ ‹_› | exact eCells_isByte _ _ ‹_› | (intro hh_; have hg_ := hh_; (try simp only [condT_ff, condF_tt, notE_t, notE_f, Bool.and_eq_true, ne_eq, decide_eq_true_eq, decide_eq_false_iff_not] at hg_)) | intro _ | exact rfl | omega))
      rw [strB_from, Int.toNat_natCast, List.drop_drop]
      repeat' (first | refine tr_seq ?_ | refine reg (T := tab) tOk hnt rfl ?_ ?_ | refine regD (T := tab) tOk mixedR hnt rfl (by decide +kernel) ?_ ?_ | refine tr_block ?_ | refine tr_skip ?_)
      · (dsimp only [AllP]; (repeat' first | exact trivial | assumption | exact Nat.le_of_ble_eq_true rfl | apply And.intro | decide | intro _ | exact rfl))
      refine ⟨(i + 1, a + q3, acc ++ [q1]), ⟨by dsimp only; rw [show n.toNat - (i + 1) = n.toNat - i - 1 by omega]; exact h1, by dsimp only; rw [show n.toNat - (i + 1) = n.toNat - i - 1 by omega]; intro hh; rw [List.append_assoc]; exact h2 hh, by dsimp only; omega, by dsimp only; omega, by dsimp only; rw [List.length_append]; show acc.length + 1 = i + 1; omega⟩, by dsimp only; omega, le_of (ad := []) (by refine ⟨?_, ?_, ?_, ?_, ?_, ?_, ?_, trivial⟩ <;> first | exact trivial | rfl | exact ⟨rfl, rfl⟩ | exact ⟨rfl, rfl, rfl⟩ | exact ⟨rfl, rfl, rfl, rfl⟩ | exact ⟨rfl, rfl, rfl, rfl, rfl⟩ | exact congrArg (fun z : Int => E.v (.int .i64 z)) (wrap64_id (by omega) (by omega)) | (refine ⟨rfl, ?_⟩; repeat' first | exact trivial | rfl | apply And.intro)) (memOk_row rfl rfl hap trivial)⟩
    have hv : FnG Tryd.prog 52 gK [.one (.e (eT ((b.drop a))))] (rW (val0, 0, q2)) := by
      have h : FnG Tryd.prog 52 gK [.one (.e (eT ((b.drop a))))] (rW (rdV (rdF (sv b a (flp d i))))) := by rw [← hu]; exact valueOf_fn ((b.drop a)) (by first | omega | (rw [List.length_map]; omega))
      rw [hqq] at h
      unfold rdV at h
      rw [if_neg hq] at h
      exact h
    rw [if_pos hq] at h1 h2
    have e2 : q2 = r2 := congrArg Prod.fst h1
    rw [if_pos (by rw [← e2]; exact hq), ← e2]
    repeat' (first | refine tr_seq ?_ | refine tr_block ?_ | refine tr_skip ?_)
    refine tr_region (lex (T := tab) tOk hnt rfl ?_ (callV rfl rfl rfl rfl rfl rfl rfl hnt rfl (hv) (lex (T := tab) tOk hnt rfl ?_ (Lex.nil _)))) ?_
    · (dsimp only [AllP]; (repeat' first | exact trivial | assumption | exact Nat.le_of_ble_eq_true rfl | apply And.intro | decide | intro _ | exact rfl))
    · (dsimp only [AllP]; (repeat' first | exact trivial | assumption | exact Nat.le_of_ble_eq_true rfl | apply And.intro | decide | intro _ | exact rfl))
    repeat' (first | refine tr_seq ?_ | refine reg (T := tab) tOk hnt rfl ?_ ?_ | refine regD (T := tab) tOk mixedR hnt rfl (by decide +kernel) ?_ ?_ | refine tr_block ?_ | refine tr_skip ?_)
    · (dsimp only [AllP]; (repeat' first | exact trivial | assumption | exact Nat.le_of_ble_eq_true rfl | apply And.intro | decide | intro _ | exact rfl))
    repeat' (first | refine tr_seq ?_ | refine tr_block ?_ | refine tr_skip ?_)
    refine tr_cond rfl (fun hc => ?_) (fun hc => ?_)
    · repeat' (first | refine tr_seq ?_ | refine reg (T := tab) tOk hnt rfl ?_ ?_ | refine regD (T := tab) tOk mixedR hnt rfl (by decide +kernel) ?_ ?_ | refine tr_block ?_ | refine tr_skip ?_)
      · (dsimp only [AllP]; (repeat' first | exact trivial | assumption | exact Nat.le_of_ble_eq_true rfl | apply And.intro | decide | intro _ | exact rfl))
      refine tr_ret ⟨.inr rfl, _, _, rfl, by (repeat' first | exact trivial | exact Nat.le_of_ble_eq_true rfl | apply And.intro), ?_⟩
      exact rfl
    have hc : (!decide (q2 = 0)) = false := hc
    simp only [condT_tt, condT_ff, condF_tt, condF_ff, notE_t, notE_f, decide_eq_true_eq, decide_eq_false_iff_not] at hc
    exact absurd hc hq
  simp only [condT_tt, condT_ff, condF_tt, condF_ff, notE_t, notE_f, decide_eq_true_eq, decide_eq_false_iff_not] at hc
  refine tr_exit ?_
  rw [show n.toNat - i = 0 by omega, dcG] at h1 h2
  have e2 : 0 = r2 := congrArg Prod.fst h1
  have e3 : a = r3 := congrArg Prod.snd h1
  have e1 : acc = r1 := by have h3 := h2 e2.symm; rwa [List.append_nil] at h3
  clear h1 h2
  subst e2
  subst e3
  subst e1
  rw [if_neg (not_not_intro rfl)]
  have hdl : (b.drop a).length = b.length - a := List.length_drop
  repeat' (first | refine tr_seq ?_ | refine reg (T := tab) tOk hnt rfl ?_ ?_ | refine regD (T := tab) tOk mixedR hnt rfl (by decide +kernel) ?_ ?_ | refine tr_block ?_ | refine tr_skip ?_)
  · (dsimp only [AllP]; (repeat' first | exact trivial | assumption | exact Nat.le_of_ble_eq_true rfl | apply And.intro | decide | intro _ | exact rfl))
  repeat' (first | refine tr_seq ?_ | refine tr_block ?_ | refine tr_skip ?_)
  refine tr_cond rfl (fun hc => ?_) (fun hc => ?_)
  · have hc : (!decide ((b.drop a).length = 0)) = true := (congrArg (fun z => !z) (strEq_nil (b.drop a))).symm.trans hc
    simp only [condT_tt, condT_ff, condF_tt, condF_ff, notE_t, notE_f, decide_eq_true_eq, decide_eq_false_iff_not] at hc
    rw [if_pos (by omega)]
    repeat' (first | refine tr_seq ?_ | refine reg (T := tab) tOk hnt rfl ?_ ?_ | refine regD (T := tab) tOk mixedR hnt rfl (by decide +kernel) ?_ ?_ | refine tr_block ?_ | refine tr_skip ?_)
    · (dsimp only [AllP]; (repeat' first | exact trivial | assumption | exact Nat.le_of_ble_eq_true rfl | apply And.intro | decide | intro _ | exact rfl))
    refine tr_ret ⟨.inr rfl, _, _, rfl, by (repeat' first | exact trivial | exact Nat.le_of_ble_eq_true rfl | apply And.intro), ?_⟩
    exact rfl
  have hc : (!decide ((b.drop a).length = 0)) = false := (congrArg (fun z => !z) (strEq_nil (b.drop a))).symm.trans hc
  simp only [condT_tt, condT_ff, condF_tt, condF_ff, notE_t, notE_f, decide_eq_true_eq, decide_eq_false_iff_not] at hc
  rw [if_neg (by omega)]
  repeat' (first | refine tr_seq ?_ | refine reg (T := tab) tOk hnt rfl ?_ ?_ | refine regD (T := tab) tOk mixedR hnt rfl (by decide +kernel) ?_ ?_ | refine tr_block ?_ | refine tr_skip ?_)
  · (dsimp only [AllP]; (repeat' first | exact trivial | assumption | exact Nat.le_of_ble_eq_true rfl | apply And.intro | decide | intro _ | exact rfl))
  refine tr_ret ⟨.inr rfl, _, _, rfl, by (repeat' first | exact trivial | exact Nat.le_of_ble_eq_true rfl | apply And.intro), ?_⟩
  exact rfl
end Go.Proofs.YtcjeeoimjkhijaaDoor
