/- utf8.ValidString. No condition. -/
import Derived.Test.YtcdifgacoleckaaDoorTUtf
namespace Go.Proofs.YtcdifgacoleckaaDoor
open Go Go.RowKit Go.Proofs.YtcdifgacoleckaaDoor.Ab
set_option linter.unusedSimpArgs false
set_option linter.unusedVariables false

theorem tb_at (a : UInt8) : ((fsE.drop (Int.toNat (a.toNat : Int) * 1)).getD 0 E.dflt).int = (tb a : Int) := by
  have h : ∀ n : Fin 256, (fsE.drop (n.val * 1)).getD 0 E.dflt = eU8 (utT.getD n.val 0) := by
    intro n
    have hn := n.isLt
    rw [Nat.mul_one, List.getD_eq_getElem?_getD, List.getElem?_drop, Nat.add_zero]
    have hl : n.val < utT.length := by rw [show utT.length = 256 by kernel_rfl]; exact hn
    unfold fsE
    rw [List.getElem?_map, List.getD_eq_getElem?_getD, List.getElem?_eq_getElem hl]
    rfl
  exact congrArg E.int (h ⟨a.toNat, a.toNat_lt⟩)
theorem fs_len (a : UInt8) : 0 < (Cs.es (fsE.drop (Int.toNat (a.toNat : Int) * 1))).len := by
  have := a.toNat_lt
  show 0 < (fsE.drop (a.toNat * 1)).length
  rw [List.length_drop, show fsE.length = 256 by kernel_rfl]
  omega
theorem fs_isA (a : UInt8) : D0.isA (.int .u8) ((Cs.es (fsE.drop (Int.toNat (a.toNat : Int) * 1))).at 0) := by
  have h : ∀ e ∈ fsE, e.as (.int .u8) = e := fun e he => by
    obtain ⟨n, _, rfl⟩ := List.mem_map.1 he
    rfl
  have hl := fs_len a
  have hl : 0 < (fsE.drop (Int.toNat (a.toNat : Int) * 1)).length := hl
  refine h _ (List.mem_of_mem_drop (i := Int.toNat (a.toNat : Int) * 1) ?_)
  rw [List.getD_eq_getElem?_getD, List.getElem?_eq_getElem hl]
  exact List.getElem_mem hl
theorem sz_conv (a : UInt8) : IntKind.i64.wrap (IntKind.u8.wrap ((BitVec.ofInt IntKind.u8.bits (tb a : Int) &&& BitVec.ofInt IntKind.u8.bits 7).toNat : Int)) = (sz a : Int) := by
  have h : ∀ n : Fin 256, IntKind.i64.wrap (IntKind.u8.wrap ((BitVec.ofInt IntKind.u8.bits ((utT.getD n.val 0 : Nat) : Int) &&& BitVec.ofInt IntKind.u8.bits 7).toNat : Int)) = ((utT.getD n.val 0 % 8 : Nat) : Int) := by decide +kernel
  exact h ⟨a.toNat, a.toNat_lt⟩
theorem tb_div (a : UInt8) : Int.toNat (Int.fdiv (tb a : Int) (2 ^ min (Int.toNat 4) IntKind.u8.bits)) = tb a / 16 := by
  rw [show (2 : Int) ^ min (Int.toNat 4) IntKind.u8.bits = ((16 : Nat) : Int) from rfl, Int.fdiv_eq_ediv_of_nonneg _ (Int.natCast_nonneg _)]
  rfl
theorem tb_lt (a : UInt8) : tb a / 16 < 16 := by
  have h : ∀ n : Fin 256, utT.getD n.val 0 / 16 < 16 := by decide +kernel
  exact h ⟨a.toNat, a.toNat_lt⟩
theorem acc_at (a : UInt8) : List.take 2 (List.drop 0 (List.drop (Int.toNat (Int.fdiv (tb a : Int) (2 ^ min (Int.toNat 4) IntKind.u8.bits)) * 2) acE)) = [eU8 (alo a), eU8 (ahi a)] := by
  have h : ∀ k : Fin 16, List.take 2 (List.drop (k.val * 2) acT) = [acT.getD (k.val * 2) 0, acT.getD (k.val * 2 + 1) 0] := by decide +kernel
  have := congrArg (List.map eU8) (h ⟨_, tb_lt a⟩)
  rw [List.map_take, List.map_drop] at this
  rw [tb_div]
  exact this
theorem ac_ok (a : UInt8) : Int.fdiv (tb a : Int) (2 ^ min (Int.toNat 4) IntKind.u8.bits) < ((16 : Nat) : Int) ∧ 0 ≤ Int.fdiv (tb a : Int) (2 ^ min (Int.toNat 4) IntKind.u8.bits) ∧ True := by
  have h : Int.fdiv (tb a : Int) (2 ^ min (Int.toNat 4) IntKind.u8.bits) = ((tb a / 16 : Nat) : Int) := by
    rw [show (2 : Int) ^ min (Int.toNat 4) IntKind.u8.bits = ((16 : Nat) : Int) from rfl, Int.fdiv_eq_ediv_of_nonneg _ (Int.natCast_nonneg _)]
    rfl
  have := tb_lt a
  exact ⟨by omega, by omega, trivial⟩
theorem strB_from (x : Byt) (k : Nat) : (strB x).extract k (Int.toNat ((strB x).size : Int)) = strB (x.drop k) := by
  rw [strB_extract, Int.toNat_natCast, strB_size, List.take_of_length_le (Nat.le_refl _)]
def hiz (w : BitVec 64) : Prop := w &&& BitVec.ofInt 64 9259542123273814144 = 0#64
theorem hiz_or {a b : BitVec 64} (h : hiz (a ||| b)) : hiz a ∧ hiz b := by
  have h : ∀ i, ((a ||| b) &&& BitVec.ofInt 64 9259542123273814144).getLsbD i = false := fun i => by rw [h]; simp
  constructor <;>
  · apply BitVec.eq_of_getLsbD_eq
    intro i _
    have := h i
    simp only [BitVec.getLsbD_and, BitVec.getLsbD_or] at this ⊢
    rw [BitVec.getLsbD_zero]
    cases ha : a.getLsbD i <;> cases hb : b.getLsbD i <;> simp_all
theorem hiz_dec {w : BitVec 64} (h : decide (IntKind.u64.wrap ((BitVec.ofInt IntKind.u64.bits (w.toNat : Int) &&& BitVec.ofInt IntKind.u64.bits 9259542123273814144).toNat : Int) = 0) = true) : hiz w := by
  have h := of_decide_eq_true h
  rw [show IntKind.u64.bits = 64 from rfl, q_of, q_id] at h
  exact BitVec.eq_of_toNat_eq (by have : (0#64).toNat = 0 := rfl; rw [this]; exact Int.ofNat.inj h)
theorem vld_word {x : Byt} (h : 8 ≤ x.length) (hz : hiz (wdQ x)) : vld (x.drop 8) = vld x := vld_drop 8 x h fun i hi => wd_small hz i hi
theorem word_sl (x : Byt) (k : Nat) (h : 8 ≤ (x.drop k).length) : FnD Tryd.prog 64 [.one (.e (.v (.string ((strB x).extract k (Int.toNat ((strB x).size : Int))))))] (.one (.e (eQ (wdQ (x.drop k))))) := by
  rw [strB_from]
  exact word_fn (x.drop k) h
theorem len_of {c : Bool} {x : Byt} {n : Int} (h : (bif decide (n < ((strB x).size : Int)) then c else false) = true) : n < (x.length : Int) ∧ c = true := by
  rw [strB_size] at h
  cases hd : decide (n < (x.length : Int)) with
  | true => rw [hd] at h; exact ⟨of_decide_eq_true hd, h⟩
  | false => rw [hd] at h; cases h
theorem hiz_dec2 {a b : BitVec 64} (h : decide (IntKind.u64.wrap ((BitVec.ofInt IntKind.u64.bits (IntKind.u64.wrap ((BitVec.ofInt IntKind.u64.bits (a.toNat : Int) ||| BitVec.ofInt IntKind.u64.bits (b.toNat : Int)).toNat : Int)) &&& BitVec.ofInt IntKind.u64.bits 9259542123273814144).toNat : Int) = 0) = true) : hiz a ∧ hiz b := by
  rw [q_or] at h
  exact hiz_or (hiz_dec h)
theorem hiz_dec4 {a b c d : BitVec 64} (h : decide (IntKind.u64.wrap ((BitVec.ofInt IntKind.u64.bits (IntKind.u64.wrap ((BitVec.ofInt IntKind.u64.bits (IntKind.u64.wrap ((BitVec.ofInt IntKind.u64.bits (a.toNat : Int) ||| BitVec.ofInt IntKind.u64.bits (b.toNat : Int)).toNat : Int)) ||| BitVec.ofInt IntKind.u64.bits (IntKind.u64.wrap ((BitVec.ofInt IntKind.u64.bits (c.toNat : Int) ||| BitVec.ofInt IntKind.u64.bits (d.toNat : Int)).toNat : Int))).toNat : Int)) &&& BitVec.ofInt IntKind.u64.bits 9259542123273814144).toNat : Int) = 0) = true) : (hiz a ∧ hiz b) ∧ hiz c ∧ hiz d := by
  rw [q_or, q_or] at h
  have := hiz_dec2 h
  exact ⟨hiz_or this.1, hiz_or this.2⟩
theorem vld_words {x : Byt} : ∀ (n : Nat), n * 8 ≤ x.length → (∀ i, i < n → hiz (wdQ (x.drop (i * 8)))) → vld (x.drop (n * 8)) = vld x
  | 0, _, _ => rfl
  | n + 1, h, hz => by
    rw [← vld_words n (by omega) (fun i hi => hz i (by omega)), ← vld_word (x := x.drop (n * 8)) (by rw [List.length_drop]; omega) (hz n (by omega)), List.drop_drop]
    congr 2
    omega
set_option maxRecDepth 10000 in
set_option maxHeartbeats 2000000 in
theorem valid_fn (l : Byt) : FnG Tryd.prog 51 gK [.one (.e (eT l))] (.v (.bool (vld l))) := by
  refine fn_introG (T := tab) tOk Tryd.func51 rfl (by kernel_rfl) (by simp [Tryd.ntmps51]) ?_
  intro X hX
  have hnt : X.nt = 169 := hX
  clear hX
  repeat' first | refine zzs ?_ | refine zzr hnt rfl ?_ ?_ | refine zzd hnt rfl ?_ ?_ | refine zzb ?_ | refine zzk ?_
  · exact zzt
  repeat' first | refine zzs ?_ | refine zzb ?_ | refine zzk ?_
  refine tr_loop (σ := Byt) (fun x => St.of [(0, .one (.e (eT x))), ((1000000 + 3), .one (.eptr fsE)), ((1000000 + 4), .one (.eptr acE))] []) (fun x => vld x = vld l) (fun x => x.length) (l) (le_of (ad := []) ⟨zzl, zzl, zzl, trivial⟩ trivial) rfl ?_
  rintro x hx
  have hl : (strB x).size = x.length := strB_size x
  repeat' first | refine zzs ?_ | refine zzr hnt rfl ?_ ?_ | refine zzd hnt rfl ?_ ?_ | refine zzb ?_ | refine zzk ?_
  · exact zzt
  repeat' first | refine zzs ?_ | refine zzb ?_ | refine zzk ?_
  refine tr_cond rfl (fun hc => ?_) (fun hc => ?_)
  · have hc : (0 : Int) < ((strB x).size : Int) := of_decide_eq_true hc
    have hpos : 0 < x.length := by omega
    have hne : x ≠ [] := List.length_pos_iff.1 hpos
    repeat' first | refine zzs ?_ | refine zzb ?_ | refine zzk ?_
    first | refine zzr hnt rfl ?_ ?_ | refine zzd hnt rfl ?_ ?_
    · rw [hl]
      (dsimp only [AllP]; (repeat' first | exact trivial | assumption | exact Nat.le_of_ble_eq_true rfl | apply And.intro | exact eCells_len1 _ _ ‹_› | exact eCells_isByte _ _ ‹_› | (intro hh_; have hg_ := hh_; (try simp only [condT_ff, condF_tt, decide_eq_true_eq, decide_eq_false_iff_not] at hg_)) | intro _ | exact rfl | omega))
    obtain ⟨a, ha⟩ : ∃ a, x.getD 0 0 = a := ⟨_, rfl⟩
    have ha' : (strB x).data.toList.getD (Int.toNat 0) 0 = a := ha
    rw [ha']
    repeat' first | refine zzs ?_ | refine zzb ?_ | refine zzk ?_
    first | refine zzr hnt rfl ?_ ?_ | refine zzd hnt rfl ?_ ?_
    · exact zzt
    repeat' first | refine zzs ?_ | refine zzb ?_ | refine zzk ?_
    refine tr_cond rfl (fun hc => ?_) (fun hc => ?_)
    · have hc : ((a.toNat : Int)) < 128 := of_decide_eq_true hc
      have v1 := vld_ascii hne (by rw [ha]; omega)
      repeat' first | refine zzs ?_ | refine zzb ?_ | refine zzk ?_
      first | refine zzr hnt rfl ?_ ?_ | refine zzd hnt rfl ?_ ?_
      · rw [hl]
        (dsimp only [AllP]; (repeat' first | exact trivial | assumption | exact Nat.le_of_ble_eq_true rfl | apply And.intro | exact eCells_len1 _ _ ‹_› | exact eCells_isByte _ _ ‹_› | (intro hh_; have hg_ := hh_; (try simp only [condT_ff, condF_tt, decide_eq_true_eq, decide_eq_false_iff_not] at hg_)) | intro _ | exact rfl | omega))
      rw [strB_from x (Int.toNat 1), show x.drop (Int.toNat 1) = x.drop 1 from rfl]
      have hyl : (x.drop 1).length = x.length - 1 := List.length_drop
      generalize x.drop 1 = y at *
      have hly : (strB y).size = y.length := strB_size y
      repeat' first | refine zzs ?_ | refine zzb ?_ | refine zzk ?_
      refine tr_region (zzx hnt rfl ?_ (callG rfl rfl rfl rfl rfl rfl hnt rfl (fun hq => ?_) (fun hq => word_fn y (by have h := of_decide_eq_true hq; omega)) (zzx hnt rfl ?_ (Lex.nil _)))) ?_
      · exact zzt
      · exact zzt
      · exact zzt
      repeat' first | refine zzs ?_ | refine zzb ?_ | refine zzk ?_
      refine tr_cond rfl (fun hc => ?_) (fun hc => ?_)
      · have h8 : 8 < y.length := by
          cases h : decide ((8 : Int) < ((strB y).size : Int)) with
          | true => have := of_decide_eq_true h; omega
          | false => rw [h] at hc; cases hc
        have hz : hiz (wdQ y) := hiz_dec (by
          cases h : decide ((8 : Int) < ((strB y).size : Int)) with
          | true => rw [h] at hc; exact hc
          | false => rw [h] at hc; cases hc)
        clear hc
        have v2 := vld_word (Nat.le_of_lt h8) hz
        repeat' first | refine zzs ?_ | refine zzb ?_ | refine zzk ?_
        first | refine zzr hnt rfl ?_ ?_ | refine zzd hnt rfl ?_ ?_
        · rw [hly]
          (dsimp only [AllP]; (repeat' first | exact trivial | assumption | exact Nat.le_of_ble_eq_true rfl | apply And.intro | exact eCells_len1 _ _ ‹_› | exact eCells_isByte _ _ ‹_› | (intro hh_; have hg_ := hh_; (try simp only [condT_ff, condF_tt, decide_eq_true_eq, decide_eq_false_iff_not] at hg_)) | intro _ | exact rfl | omega))
        rw [strB_from y (Int.toNat 8), show y.drop (Int.toNat 8) = y.drop 8 from rfl]
        have hul : (y.drop 8).length = y.length - 8 := List.length_drop
        generalize y.drop 8 = u at *
        have hlu : (strB u).size = u.length := strB_size u
        repeat' first | refine zzs ?_ | refine zzb ?_ | refine zzk ?_
        refine tr_draw (T := tab) tOk hnt mixedR (lexD (T := tab) rfl ?_ (callGD rfl rfl rfl rfl rfl rfl rfl rfl (fun hq => ?_) (fun hq => word_fn u (by have h := of_decide_eq_true hq; omega)) (lexD (T := tab) rfl ?_ (callGD rfl rfl rfl rfl rfl rfl rfl rfl (fun hq => ?_) (fun hq => word_sl u 8 (by have h := of_decide_eq_true hq; rw [List.length_drop]; omega)) (lexD (T := tab) rfl ?_ (.nil _)))))) (by decide +kernel) ?_
        · exact zzt
        · exact zzt
        · rw [hlu]
          (dsimp only [AllP]; (repeat' first | exact trivial | assumption | exact Nat.le_of_ble_eq_true rfl | apply And.intro | exact eCells_len1 _ _ ‹_› | exact eCells_isByte _ _ ‹_› | (intro hh_; have hg_ := hh_; (try simp only [condT_ff, condF_tt, decide_eq_true_eq, decide_eq_false_iff_not] at hg_)) | intro _ | exact rfl | omega))
        · exact zzt
        · exact zzt
        repeat' first | refine zzs ?_ | refine zzb ?_ | refine zzk ?_
        refine tr_cond rfl (fun hc => ?_) (fun hc => ?_)
        · obtain ⟨h16, hz2⟩ := len_of hc
          have hz2 := hiz_dec2 hz2
          clear hc
          have v3 := vld_words (x := u) 2 (by omega) (fun i hi => match i, hi with | 0, _ => hz2.1 | 1, _ => hz2.2)
          repeat' first | refine zzs ?_ | refine zzb ?_ | refine zzk ?_
          first | refine zzr hnt rfl ?_ ?_ | refine zzd hnt rfl ?_ ?_
          · rw [hlu]
            (dsimp only [AllP]; (repeat' first | exact trivial | assumption | exact Nat.le_of_ble_eq_true rfl | apply And.intro | exact eCells_len1 _ _ ‹_› | exact eCells_isByte _ _ ‹_› | (intro hh_; have hg_ := hh_; (try simp only [condT_ff, condF_tt, decide_eq_true_eq, decide_eq_false_iff_not] at hg_)) | intro _ | exact rfl | omega))
          rw [strB_from u (Int.toNat 16), show u.drop (Int.toNat 16) = u.drop 16 from rfl]
          have hsl : (u.drop 16).length = u.length - 16 := List.length_drop
          have v3 : vld (u.drop 16) = vld u := v3
          generalize u.drop 16 = s at *
          repeat' first | refine zzs ?_ | refine zzb ?_ | refine zzk ?_
          refine tr_loop (σ := Byt) (fun z => St.of [(0, .one (.e (eT z))), ((1000000 + 3), .one (.eptr fsE)), ((1000000 + 4), .one (.eptr acE))] []) (fun z => vld z = vld l ∧ z.length < x.length) (fun z => z.length) (s) (le_of (ad := []) ⟨zzl, zzl, zzl, trivial⟩ trivial) ⟨(v3.trans v2).trans (v1.trans hx), by omega⟩ ?_
          rintro z ⟨hz, hzl⟩
          have hlz : (strB z).size = z.length := strB_size z
          repeat' first | refine zzs ?_ | refine zzb ?_ | refine zzk ?_
          refine tr_draw (T := tab) tOk hnt mixedR (lexD (T := tab) rfl ?_ (callGD rfl rfl rfl rfl rfl rfl rfl rfl (fun hq => ?_) (fun hq => word_fn z (by have h := of_decide_eq_true hq; omega)) (lexD (T := tab) rfl ?_ (callGD rfl rfl rfl rfl rfl rfl rfl rfl (fun hq => ?_) (fun hq => word_sl z 8 (by have h := of_decide_eq_true hq; rw [List.length_drop]; omega)) (lexD (T := tab) rfl ?_ (callGD rfl rfl rfl rfl rfl rfl rfl rfl (fun hq => ?_) (fun hq => word_sl z 16 (by have h := of_decide_eq_true hq; rw [List.length_drop]; omega)) (lexD (T := tab) rfl ?_ (callGD rfl rfl rfl rfl rfl rfl rfl rfl (fun hq => ?_) (fun hq => word_sl z 24 (by have h := of_decide_eq_true hq; rw [List.length_drop]; omega)) (lexD (T := tab) rfl ?_ (.nil _)))))))))) (by decide +kernel) ?_
          · exact zzt
          · exact zzt
          · rw [hlz]
            (dsimp only [AllP]; (repeat' first | exact trivial | assumption | exact Nat.le_of_ble_eq_true rfl | apply And.intro | exact eCells_len1 _ _ ‹_› | exact eCells_isByte _ _ ‹_› | (intro hh_; have hg_ := hh_; (try simp only [condT_ff, condF_tt, decide_eq_true_eq, decide_eq_false_iff_not] at hg_)) | intro _ | exact rfl | omega))
          · exact zzt
          · rw [hlz]
            (dsimp only [AllP]; (repeat' first | exact trivial | assumption | exact Nat.le_of_ble_eq_true rfl | apply And.intro | exact eCells_len1 _ _ ‹_› | exact eCells_isByte _ _ ‹_› | (intro hh_; have hg_ := hh_; (try simp only [condT_ff, condF_tt, decide_eq_true_eq, decide_eq_false_iff_not] at hg_)) | intro _ | exact rfl | omega))
          · exact zzt
          · rw [hlz]
            (dsimp only [AllP]; (repeat' first | exact trivial | assumption | exact Nat.le_of_ble_eq_true rfl | apply And.intro | exact eCells_len1 _ _ ‹_› | exact eCells_isByte _ _ ‹_› | (intro hh_; have hg_ := hh_; (try simp only [condT_ff, condF_tt, decide_eq_true_eq, decide_eq_false_iff_not] at hg_)) | intro _ | exact rfl | omega))
          · exact zzt
          · exact zzt
          repeat' first | refine zzs ?_ | refine zzb ?_ | refine zzk ?_
          refine tr_cond rfl (fun hc => ?_) (fun hc => ?_)
          · obtain ⟨h32, hz4⟩ := len_of hc
            have hz4 := hiz_dec4 hz4
            clear hc
            have v4 := vld_words (x := z) 4 (by omega) (fun i hi => match i, hi with | 0, _ => hz4.1.1 | 1, _ => hz4.1.2 | 2, _ => hz4.2.1 | 3, _ => hz4.2.2)
            repeat' first | refine zzs ?_ | refine zzb ?_ | refine zzk ?_
            first | refine zzr hnt rfl ?_ ?_ | refine zzd hnt rfl ?_ ?_
            · rw [hlz]
              (dsimp only [AllP]; (repeat' first | exact trivial | assumption | exact Nat.le_of_ble_eq_true rfl | apply And.intro | exact eCells_len1 _ _ ‹_› | exact eCells_isByte _ _ ‹_› | (intro hh_; have hg_ := hh_; (try simp only [condT_ff, condF_tt, decide_eq_true_eq, decide_eq_false_iff_not] at hg_)) | intro _ | exact rfl | omega))
            rw [strB_from z (Int.toNat 32), show z.drop (Int.toNat 32) = z.drop 32 from rfl]
            have hsl : (z.drop 32).length = z.length - 32 := List.length_drop
            have v4 : vld (z.drop 32) = vld z := v4
            generalize z.drop 32 = q at *
            repeat' first | refine zzs ?_ | refine zzb ?_ | refine zzk ?_
            refine ⟨q, ?_, ?_, le_of (ad := []) ⟨rfl, rfl, rfl, trivial⟩ trivial⟩
            · exact ⟨v4.trans hz, by omega⟩
            · omega
          refine tr_exit ?_
          repeat' first | refine zzs ?_ | refine zzb ?_ | refine zzk ?_
          refine tr_exit ?_
          refine ⟨z, ?_, ?_, le_of (ad := []) ⟨rfl, rfl, rfl, trivial⟩ trivial⟩
          · exact hz
          · exact hzl
        repeat' first | refine zzs ?_ | refine zzb ?_ | refine zzk ?_
        refine tr_exit ?_
        refine ⟨u, ?_, ?_, le_of (ad := []) ⟨rfl, rfl, rfl, trivial⟩ trivial⟩
        · exact v2.trans (v1.trans hx)
        · omega
      repeat' first | refine zzs ?_ | refine zzb ?_ | refine zzk ?_
      refine tr_exit ?_
      refine ⟨y, ?_, ?_, le_of (ad := []) ⟨rfl, rfl, rfl, trivial⟩ trivial⟩
      · exact v1.trans hx
      · omega
    have hc : ¬ ((a.toNat : Int)) < 128 := of_decide_eq_false hc
    have hst : stepU x = if sz a = 2 then (if bad2 x = true then none else some 2) else if sz a = 3 then (if bad3 x = true then none else some 3) else if sz a = 4 then (if bad4 x = true then none else some 4) else none := by
      unfold stepU
      rw [ha, if_neg (by omega)]
    have hv := vld_step hne
    have al := a.toNat_lt
    have f1 := fs_len a
    have f2 := fs_isA a
    repeat' first | refine zzs ?_ | refine zzb ?_ | refine zzk ?_
    first | refine zzr hnt rfl ?_ ?_ | refine zzd hnt rfl ?_ ?_
    · (dsimp only [AllP]; (repeat' first | exact trivial | assumption | exact Nat.le_of_ble_eq_true rfl | apply And.intro | exact eCells_len1 _ _ ‹_› | exact eCells_isByte _ _ ‹_› | (intro hh_; have hg_ := hh_; (try simp only [condT_ff, condF_tt, decide_eq_true_eq, decide_eq_false_iff_not] at hg_)) | intro _ | exact rfl | omega))
    rw [tb_at a]
    clear f1 f2
    repeat' first | refine zzs ?_ | refine zzb ?_ | refine zzk ?_
    first | refine zzr hnt rfl ?_ ?_ | refine zzd hnt rfl ?_ ?_
    · exact zzt
    rw [sz_conv a]
    obtain ⟨g1, g2, g3⟩ := ac_ok a
    have g4 : (Cs.es (List.take 2 (List.drop 0 (List.drop (Int.toNat (Int.fdiv (tb a : Int) (2 ^ min (Int.toNat 4) IntKind.u8.bits)) * 2) acE)))).len = 2 := congrArg List.length (acc_at a)
    have g5 : 0 + 2 ≤ (Cs.es (List.drop (Int.toNat (Int.fdiv (tb a : Int) (2 ^ min (Int.toNat 4) IntKind.u8.bits)) * 2) acE)).len := by
      have : (List.take 2 (List.drop (Int.toNat (Int.fdiv (tb a : Int) (2 ^ min (Int.toNat 4) IntKind.u8.bits)) * 2) acE)).length = 2 := g4
      rw [List.length_take] at this
      show 0 + 2 ≤ List.length _
      omega
    repeat' first | refine zzs ?_ | refine zzb ?_ | refine zzk ?_
    first | refine zzr hnt rfl ?_ ?_ | refine zzd hnt rfl ?_ ?_
    · (dsimp only [AllP]; (repeat' first | exact trivial | assumption | exact Nat.le_of_ble_eq_true rfl | apply And.intro | exact eCells_len1 _ _ ‹_› | exact eCells_isByte _ _ ‹_› | (intro hh_; have hg_ := hh_; (try simp only [condT_ff, condF_tt, decide_eq_true_eq, decide_eq_false_iff_not] at hg_)) | intro _ | exact rfl | omega))
    rw [acc_at a]
    clear g1 g2 g3 g4 g5
    repeat' first | refine zzs ?_ | refine zzb ?_ | refine zzk ?_
    first | refine zzr hnt rfl ?_ ?_ | refine zzd hnt rfl ?_ ?_
    · exact zzt
    repeat' first | refine zzs ?_ | refine zzb ?_ | refine zzk ?_
    first | refine zzr hnt rfl ?_ ?_ | refine zzd hnt rfl ?_ ?_
    · exact zzt
    repeat' first | refine zzs ?_ | refine zzb ?_ | refine zzk ?_
    refine tr_cond rfl (fun hc => ?_) (fun hc => ?_)
    · have hc : sz a = 2 := by have := of_decide_eq_true hc; omega
      rw [if_pos hc] at hst
      have hx1 : (strB x).data.toList = x := strB_list x
      repeat' first | refine zzs ?_ | refine zzb ?_ | refine zzk ?_
      first | refine zzr hnt rfl ?_ ?_ | refine zzd hnt rfl ?_ ?_
      · rw [hl]
        (dsimp only [AllP]; (repeat' first | exact trivial | assumption | exact Nat.le_of_ble_eq_true rfl | apply And.intro | exact eCells_len1 _ _ ‹_› | exact eCells_isByte _ _ ‹_› | (intro hh_; have hg_ := hh_; (try simp only [condT_ff, condF_tt, decide_eq_true_eq, decide_eq_false_iff_not] at hg_)) | intro _ | exact rfl | omega))
      repeat' first | refine zzs ?_ | refine zzb ?_ | refine zzk ?_
      refine tr_cond rfl (fun hc => ?_) (fun hc => ?_)
      · have hb : bad2 x = true := by unfold bad2 bI; rw [ha, ← hx1, ← strB_size]; exact hc
        rw [if_pos hb] at hst
        rw [← hx, hv, hst]
        repeat' first | refine zzs ?_ | refine zzr hnt rfl ?_ ?_ | refine zzd hnt rfl ?_ ?_ | refine zzb ?_ | refine zzk ?_
        · exact zzt
        exact tr_ret ⟨.inr rfl, _, _, rfl, trivial, rfl⟩
      have hb : bad2 x = false := by unfold bad2 bI; rw [ha, ← hx1, ← strB_size]; exact hc
      have hlen : 2 ≤ x.length := by
        unfold bad2 at hb
        simp only [condT_ff, decide_eq_false_iff_not] at hb
        omega
      rw [if_neg (by rw [hb]; exact Bool.false_ne_true)] at hst
      repeat' first | refine zzs ?_ | refine zzb ?_ | refine zzk ?_
      first | refine zzr hnt rfl ?_ ?_ | refine zzd hnt rfl ?_ ?_
      · rw [hl]
        (dsimp only [AllP]; (repeat' first | exact trivial | assumption | exact Nat.le_of_ble_eq_true rfl | apply And.intro | exact eCells_len1 _ _ ‹_› | exact eCells_isByte _ _ ‹_› | (intro hh_; have hg_ := hh_; (try simp only [condT_ff, condF_tt, decide_eq_true_eq, decide_eq_false_iff_not] at hg_)) | intro _ | exact rfl | omega))
      rw [strB_from x (Int.toNat 2), show x.drop (Int.toNat 2) = x.drop 2 from rfl]
      rw [hst] at hv
      have hv : vld x = vld (x.drop 2) := hv
      repeat' first | refine zzs ?_ | refine zzb ?_ | refine zzk ?_
      refine ⟨(x.drop 2), ?_, ?_, le_of (ad := []) ⟨rfl, rfl, rfl, trivial⟩ trivial⟩
      · exact hv.symm.trans hx
      · rw [List.length_drop]; omega
    have hc2 : ¬ sz a = 2 := fun e => absurd (of_decide_eq_false hc) (fun h => h (by omega))
    repeat' first | refine zzs ?_ | refine zzb ?_ | refine zzk ?_
    first | refine zzr hnt rfl ?_ ?_ | refine zzd hnt rfl ?_ ?_
    · exact zzt
    repeat' first | refine zzs ?_ | refine zzb ?_ | refine zzk ?_
    refine tr_cond rfl (fun hc => ?_) (fun hc => ?_)
    · have hc : sz a = 3 := by have := of_decide_eq_true hc; omega
      rw [if_neg hc2, if_pos hc] at hst
      have hx1 : (strB x).data.toList = x := strB_list x
      repeat' first | refine zzs ?_ | refine zzb ?_ | refine zzk ?_
      first | refine zzr hnt rfl ?_ ?_ | refine zzd hnt rfl ?_ ?_
      · rw [hl]
        (dsimp only [AllP]; (repeat' first | exact trivial | assumption | exact Nat.le_of_ble_eq_true rfl | apply And.intro | exact eCells_len1 _ _ ‹_› | exact eCells_isByte _ _ ‹_› | (intro hh_; have hg_ := hh_; (try simp only [condT_ff, condF_tt, decide_eq_true_eq, decide_eq_false_iff_not] at hg_)) | intro _ | exact rfl | omega))
      repeat' first | refine zzs ?_ | refine zzb ?_ | refine zzk ?_
      refine tr_cond rfl (fun hc => ?_) (fun hc => ?_)
      · have hb : bad3 x = true := by unfold bad3 bI; rw [ha, ← hx1, ← strB_size]; exact hc
        rw [if_pos hb] at hst
        rw [← hx, hv, hst]
        repeat' first | refine zzs ?_ | refine zzr hnt rfl ?_ ?_ | refine zzd hnt rfl ?_ ?_ | refine zzb ?_ | refine zzk ?_
        · exact zzt
        exact tr_ret ⟨.inr rfl, _, _, rfl, trivial, rfl⟩
      have hb : bad3 x = false := by unfold bad3 bI; rw [ha, ← hx1, ← strB_size]; exact hc
      have hlen : 3 ≤ x.length := by
        unfold bad3 at hb
        simp only [condT_ff, decide_eq_false_iff_not] at hb
        omega
      rw [if_neg (by rw [hb]; exact Bool.false_ne_true)] at hst
      repeat' first | refine zzs ?_ | refine zzb ?_ | refine zzk ?_
      first | refine zzr hnt rfl ?_ ?_ | refine zzd hnt rfl ?_ ?_
      · rw [hl]
        (dsimp only [AllP]; (repeat' first | exact trivial | assumption | exact Nat.le_of_ble_eq_true rfl | apply And.intro | exact eCells_len1 _ _ ‹_› | exact eCells_isByte _ _ ‹_› | (intro hh_; have hg_ := hh_; (try simp only [condT_ff, condF_tt, decide_eq_true_eq, decide_eq_false_iff_not] at hg_)) | intro _ | exact rfl | omega))
      rw [strB_from x (Int.toNat 3), show x.drop (Int.toNat 3) = x.drop 3 from rfl]
      rw [hst] at hv
      have hv : vld x = vld (x.drop 3) := hv
      repeat' first | refine zzs ?_ | refine zzb ?_ | refine zzk ?_
      refine ⟨(x.drop 3), ?_, ?_, le_of (ad := []) ⟨rfl, rfl, rfl, trivial⟩ trivial⟩
      · exact hv.symm.trans hx
      · rw [List.length_drop]; omega
    have hc3 : ¬ sz a = 3 := fun e => absurd (of_decide_eq_false hc) (fun h => h (by omega))
    repeat' first | refine zzs ?_ | refine zzb ?_ | refine zzk ?_
    first | refine zzr hnt rfl ?_ ?_ | refine zzd hnt rfl ?_ ?_
    · exact zzt
    repeat' first | refine zzs ?_ | refine zzb ?_ | refine zzk ?_
    refine tr_cond rfl (fun hc => ?_) (fun hc => ?_)
    · have hc : sz a = 4 := by have := of_decide_eq_true hc; omega
      rw [if_neg hc2, if_neg hc3, if_pos hc] at hst
      have hx1 : (strB x).data.toList = x := strB_list x
      repeat' first | refine zzs ?_ | refine zzb ?_ | refine zzk ?_
      first | refine zzr hnt rfl ?_ ?_ | refine zzd hnt rfl ?_ ?_
      · rw [hl]
        (dsimp only [AllP]; (repeat' first | exact trivial | assumption | exact Nat.le_of_ble_eq_true rfl | apply And.intro | exact eCells_len1 _ _ ‹_› | exact eCells_isByte _ _ ‹_› | (intro hh_; have hg_ := hh_; (try simp only [condT_ff, condF_tt, decide_eq_true_eq, decide_eq_false_iff_not] at hg_)) | intro _ | exact rfl | omega))
      repeat' first | refine zzs ?_ | refine zzb ?_ | refine zzk ?_
      refine tr_cond rfl (fun hc => ?_) (fun hc => ?_)
      · have hb : bad4 x = true := by unfold bad4 bI; rw [ha, ← hx1, ← strB_size]; exact hc
        rw [if_pos hb] at hst
        rw [← hx, hv, hst]
        repeat' first | refine zzs ?_ | refine zzr hnt rfl ?_ ?_ | refine zzd hnt rfl ?_ ?_ | refine zzb ?_ | refine zzk ?_
        · exact zzt
        exact tr_ret ⟨.inr rfl, _, _, rfl, trivial, rfl⟩
      have hb : bad4 x = false := by unfold bad4 bI; rw [ha, ← hx1, ← strB_size]; exact hc
      have hlen : 4 ≤ x.length := by
        unfold bad4 at hb
        simp only [condT_ff, decide_eq_false_iff_not] at hb
        omega
      rw [if_neg (by rw [hb]; exact Bool.false_ne_true)] at hst
      repeat' first | refine zzs ?_ | refine zzb ?_ | refine zzk ?_
      first | refine zzr hnt rfl ?_ ?_ | refine zzd hnt rfl ?_ ?_
      · rw [hl]
        (dsimp only [AllP]; (repeat' first | exact trivial | assumption | exact Nat.le_of_ble_eq_true rfl | apply And.intro | exact eCells_len1 _ _ ‹_› | exact eCells_isByte _ _ ‹_› | (intro hh_; have hg_ := hh_; (try simp only [condT_ff, condF_tt, decide_eq_true_eq, decide_eq_false_iff_not] at hg_)) | intro _ | exact rfl | omega))
      rw [strB_from x (Int.toNat 4), show x.drop (Int.toNat 4) = x.drop 4 from rfl]
      rw [hst] at hv
      have hv : vld x = vld (x.drop 4) := hv
      repeat' first | refine zzs ?_ | refine zzb ?_ | refine zzk ?_
      refine ⟨(x.drop 4), ?_, ?_, le_of (ad := []) ⟨rfl, rfl, rfl, trivial⟩ trivial⟩
      · exact hv.symm.trans hx
      · rw [List.length_drop]; omega
    have hc4 : ¬ sz a = 4 := fun e => absurd (of_decide_eq_false hc) (fun h => h (by omega))
    rw [if_neg hc2, if_neg hc3, if_neg hc4] at hst
    rw [← hx, hv, hst]
    repeat' first | refine zzs ?_ | refine zzr hnt rfl ?_ ?_ | refine zzd hnt rfl ?_ ?_ | refine zzb ?_ | refine zzk ?_
    · exact zzt
    exact tr_ret ⟨.inr rfl, _, _, rfl, trivial, rfl⟩
  refine tr_exit ?_
  have hc : ¬ (0 : Int) < ((strB x).size : Int) := of_decide_eq_false hc
  obtain rfl : x = [] := List.eq_nil_of_length_eq_zero (by omega)
  rw [← hx, vld_nil]
  repeat' first | refine zzs ?_ | refine zzr hnt rfl ?_ ?_ | refine zzd hnt rfl ?_ ?_ | refine zzb ?_ | refine zzk ?_
  · exact zzt
  exact tr_ret ⟨.inr rfl, _, _, rfl, trivial, rfl⟩
end Go.Proofs.YtcdifgacoleckaaDoor
