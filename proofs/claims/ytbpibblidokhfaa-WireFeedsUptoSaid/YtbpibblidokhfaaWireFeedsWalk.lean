/- The walk of WireFeeds: it returns true, and nothing that was there is turned. -/
import Derived.Test.YtbpibblidokhfaaTextsW
import Derived.Test.YtbpibblidokhfaaNumW
namespace Go.Proofs.Ytbpibblidokhfaa
open Go.ChangeShapes Go.WideShapes Go.ChangeAt Go.RowKit Go.Deep

/-! ### the plain law -/
def feedR : Nat → List UInt8 → Option (List (List UInt8) × List UInt8)
  | 0, l => some ([], l)
  | f + 1, l =>
    if l.length < 2 then some ([], l) else
    if 300 < numL (l.take 2) then none else
    if l.length - 2 < numL (l.take 2) then some ([], l) else
    (feedR f (l.drop (2 + numL (l.take 2)))).map fun p => ((l.drop 2).take (numL (l.take 2)) :: p.1, p.2)
def onto (out : List (List UInt8)) (r : Option (List (List UInt8) × List UInt8)) : Option (List (List UInt8) × List UInt8) := r.map fun p => (out ++ p.1, p.2)
theorem onto_nil (r : Option (List (List UInt8) × List UInt8)) : onto [] r = r := by
  cases r <;> rfl
theorem feed_short (f : Nat) (l : List UInt8) (h : l.length < 2) : feedR f l = some ([], l) := by
  cases f with
  | zero => rfl
  | succ f => unfold feedR; rw [if_pos h]
theorem feed_long (f : Nat) (l : List UInt8) (h : ¬ l.length < 2) (h2 : 300 < numL (l.take 2)) : feedR (f + 1) l = none := by
  unfold feedR; rw [if_neg h, if_pos h2]
theorem feed_wait (f : Nat) (l : List UInt8) (h : ¬ l.length < 2) (h2 : ¬ 300 < numL (l.take 2)) (h3 : l.length - 2 < numL (l.take 2)) : feedR (f + 1) l = some ([], l) := by
  unfold feedR; rw [if_neg h, if_neg h2, if_pos h3]
theorem feed_on (out : List (List UInt8)) (f : Nat) (l : List UInt8) (h : ¬ l.length < 2) (h2 : ¬ 300 < numL (l.take 2)) (h3 : ¬ l.length - 2 < numL (l.take 2)) :
    onto out (feedR (f + 1) l) = onto (out ++ [(l.drop 2).take (numL (l.take 2))]) (feedR f (l.drop (2 + numL (l.take 2)))) := by
  conv => lhs; unfold feedR
  rw [if_neg h, if_neg h2, if_neg h3]
  cases feedR f (l.drop (2 + numL (l.take 2))) <;> simp [onto]
/-- what is answered -/
def fedV (held l : List UInt8) : Int × List (List UInt8) × List UInt8 :=
  if 301 < held.length then (11, [], []) else
  match feedR ((held ++ l).length + 1) (held ++ l) with
  | none => (1, [], [])
  | some p => (0, p.1, p.2)
def Feds (held l : List UInt8) (W : World) (e : Ending) (w' : World) : Prop :=
  Below W.heap.size W w' ∧ ∃ v u, e = .returned (.tuple #[v, u, .int .i64 (fedV held l).1]) ∧ Sl cStr w' v ((fedV held l).2.1.map bs) ∧ Sl cByte w' u (fedV held l).2.2
theorem Feds.of {held l : List UInt8} {W w' : World} {e : Ending} {v u : Value} {f : Int} {o : List (List UInt8)} {r : List UInt8} (hb : Below W.heap.size W w') (he : e = .returned (.tuple #[v, u, .int .i64 f])) (hv : fedV held l = (f, o, r))
    (h1 : Sl cStr w' v (o.map bs)) (h2 : Sl cByte w' u r) : Feds held l W e w' := ⟨hb, v, u, by rw [hv]; exact he, by rw [hv]; exact h1, by rw [hv]; exact h2⟩
theorem fedV_some {held l : List UInt8} (h : ¬ 301 < held.length) {o : List (List UInt8)} {r : List UInt8} (hr : feedR ((held ++ l).length + 1) (held ++ l) = some (o, r)) : fedV held l = (0, o, r) := by
  unfold fedV; rw [if_neg h, hr]
theorem fedV_none {held l : List UInt8} (h : ¬ 301 < held.length) (hr : feedR ((held ++ l).length + 1) (held ++ l) = none) : fedV held l = (1, [], []) := by
  unfold fedV; rw [if_neg h, hr]
theorem num2 (l : List UInt8) (a b : UInt8) (ha : l[0]? = some a) (hb : l[1]? = some b) : numL (l.take 2) = a.toNat * 256 + b.toNat := by
  match l, ha, hb with
  | x :: y :: r, ha, hb =>
    simp at ha hb
    subst ha hb
    simp [numL]

/-- the length in a slot -/
def lenOf : Value → Nat | .slice _ n _ => n | .string s => s.size | _ => 0

theorem feed_len (f : Nat) : ∀ (l : List UInt8) o r, feedR f l = some (o, r) → o.length ≤ f := by
  induction f with
  | zero => intro l o r h; injection h with h; injection h with h1 h2; subst h1; exact Nat.zero_le _
  | succ f ih =>
    intro l o r h
    unfold feedR at h
    split at h
    · injection h with h; injection h with h1 h2; subst h1; exact Nat.zero_le _
    · split at h
      · cases h
      · split at h
        · injection h with h; injection h with h1 h2; subst h1; exact Nat.zero_le _
        · cases hr : feedR f (l.drop (2 + numL (l.take 2))) with
          | none => rw [hr] at h; cases h
          | some p =>
            rw [hr] at h
            simp at h
            have := ih _ p.1 p.2 hr
            rw [← h.1]
            simp
            omega
theorem fedV_len (a b : List UInt8) (h : a.length + b.length ≤ 9223372036854775000) : (fedV a b).2.1.length ≤ 9223372036854775807 := by
  unfold fedV
  split
  · simp
  · split
    · simp
    · rename_i p hp
      have := feed_len _ _ p.1 p.2 hp
      simp at this
      show p.1.length ≤ _
      omega

theorem infoStr : (Try.prog.info? 9).map (fun i => (i.zero, i.size, i.bytes)) = some (some (.string .empty), 1, 16) := by kernel_rfl
theorem infoByte : (Try.prog.info? 5).map (fun i => (i.zero, i.size, i.bytes)) = some (some (.int .u8 0), 1, 1) := by kernel_rfl

set_option maxRecDepth 100000 in
set_option maxHeartbeats 1600000 in
theorem feed_any (W : World) (A A' : Option Addr) (n c n' c' : Nat) (held l : List UInt8) (h : SlR cByte W (lt W.heap.size) A n held) (h' : SlR cByte W (lt W.heap.size) A' n' l) (hn : n ≤ 1048576) (hn' : n' ≤ 1048576) :
    Calls Try.prog 32 #[.slice A n c, .slice A' n' c'] W (Feds held l W) := by
  have hl := h.1
  have hl' := h'.1
  obtain ⟨i0, hi, hz0, hz1, hz2⟩ := info_parts infoByte
  obtain ⟨j0, hj, hy0, hy1, hy2⟩ := info_parts infoStr
  by_cases h301 : n ≤ 301
  · have HL := Lib.hid hl
    have HL' := Lib.hid hl'
    have H := Lib.hid h
    have H' := Lib.hid h'
    clear hl hl' h h'
    have hb0 : Below W.heap.size W (W.alloc (.cells #[] 5)) := (Below.refl _ _).alloc (Nat.le_refl _) _
    have HO0 := Lib.hid (World.ownsRow_lit (base := W.heap.size) (e := 5) (size := 1) W #[] 0 (Nat.le_refl _) (Nat.zero_le _) rfl)
    go_enter Try.func32, Try.ntmps32
    go_wp2_with (first | (at_builtin; refine wpList_app _ rfl (.tmp 13) (.tmp 14) 24 24 rfl W.heap.size 5 i0 (.int .u8 0) 1 1 Try.underlying24 hi hz0 hz1 hz2 rfl (by decide) _ 0 _ rfl HO0.out _ _ _ rfl (src_bytes _ Try.underlying24 (H.out.below hb0)) (by unfold maxLen; omega) (by omega) (by simp) ?_; intro v1 w1 hown1 hg1 hat1; have hbel1 : Below W.heap.size W w1 := hb0.grown hg1 (by simp) (fun q hq => (HO0.out.lt q hq).1)) | (at_builtin; refine wpList_app _ rfl (.tmp 15) (.tmp 16) 24 24 rfl W.heap.size 5 i0 (.int .u8 0) 1 1 Try.underlying24 hi hz0 hz1 hz2 rfl (by decide) _ _ _ rfl hown1 _ _ _ rfl (src_bytes _ Try.underlying24 (H'.out.below hbel1)) (by unfold maxLen; omega) (by omega) hbel1.size ?_; intro v2 w2 hown2 hg2 hat2; have hbel2 : Below W.heap.size W w2 := hbel1.grown hg2 hbel1.size (fun q hq => (hown1.lt q hq).1)))
    have hown3 := own1 (ys := held ++ l) hown2 (by simp [bv])
    obtain ⟨A2, m2, c2, rfl, hm2, hmc2, hcm2, hs2⟩ := (ownR_bytes hown3).toSl
    have HS2 := Lib.hid hs2
    have HM2 := Lib.hid hm2
    have hm2' : m2 ≤ 2097152 := by have := HM2.out; have := HL.out; have := HL'.out; simp at *; omega
    clear hown1 hown2 hown3 hs2 hg1 hg2 hat1 hat2 hm2 hcm2
    have hT : ∃ T, T = held ++ l := ⟨_, rfl⟩
    obtain ⟨T, hT⟩ := hT
    rw [← hT] at HS2 HM2
    have HT := Lib.hid hT
    clear hT
    go_loopw [7, 8] (fun a v wr => ∃ (B : Option Addr) (m cc f : Nat) (rest : List UInt8) (out : List (List UInt8)), a = .slice B m cc ∧ m ≤ cc ∧ m ≤ 2097152 ∧ SlR cByte w2 (lt w2.heap.size) B m rest ∧ m < f ∧
        onto out (feedR f rest) = feedR (T.length + 1) T ∧ out.length ≤ 2097152 - m ∧ (∀ x ∈ out, x.length ≤ 300) ∧ wr.ownsRow w2.heap.size 9 1 v out.length ((out.map bs).map Value.string) ∧ Below w2.heap.size w2 wr) (fun a _ _ => lenOf a)
    case atStart => exact ⟨A2, m2, c2, m2 + 1, T, [], rfl, hmc2, hm2', HS2.out, by omega, by rw [onto_nil, HM2.out], Nat.zero_le _, by simp, World.ownsRow_nil _ _ _ _, Below.refl _ _⟩
    case round =>
      obtain ⟨B, m, cc, f, rest, out, rfl, hmc, hm, hs, hf, hfeed, hol, ho3, hown, hbel⟩ := hrel
      have HR := Lib.hid hs
      have HF := Lib.hid hfeed
      have HO := Lib.hid hown
      have HX := Lib.hid ho3
      have hrl := hs.1
      have HRL := Lib.hid hrl
      clear hs hfeed hown ho3 hrl
      by_cases h2 : m < 2
      · have hoq := HO.out
        clear HO
        have HO := Lib.hid hoq
        clear hoq
        have hbW := hbel2.trans (hbel.mono hbel2.size)
        have HL0 := Lib.hid (World.ownsRow_lit (base := wr.heap.size) (e := 5) (size := 1) wr #[] 0 (Nat.le_refl _) (Nat.zero_le _) rfl)
        go_wp2_with (first | (at_builtin; refine wpList_app _ rfl (.tmp 51) (.tmp 52) 24 24 rfl wr.heap.size 5 i0 (.int .u8 0) 1 1 Try.underlying24 hi hz0 hz1 hz2 rfl (by decide) _ 0 _ rfl HL0.out _ _ _ rfl (src_bytes _ Try.underlying24 (HR.out.below (hbel.alloc hbel.size _))) (by unfold maxLen; omega) (by omega) (by simp) ?_; intro v3 w3 hown3 hg3 hat3; have hbel3 : Below wr.heap.size wr w3 := ((Below.refl _ _).alloc (Nat.le_refl _) _).grown hg3 (by simp) (fun q hq => (HL0.out.lt q hq).1)))
        go_ret3
        have hown4 := own1 (ys := rest) hown3 (by simp [bv])
        refine Feds.of (hbW.trans (hbel3.mono hbW.size)) rfl (fedV_some (o := out) (r := rest) (by have := HL.out; omega) (by rw [← HT.out, ← HF.out, feed_short f rest (by have := HRL.out; omega)]; simp [onto])) (Sl.below (ownR_strs HO.out ?_).toSl hbel3) (ownR_bytes hown4).toSl
        intro x hx
        obtain ⟨y, hy, rfl⟩ := List.mem_map.1 hx
        have := HX.out y hy
        rw [bs_size]
        unfold maxLen
        omega
      · obtain ⟨b0, o0, rfl, hb0', x0, hx0, hc0⟩ := HR.out.byteAt (show 0 < m by omega)
        obtain ⟨b1, o1, hA1, hb1', x1, hx1, hc1⟩ := HR.out.byteAt (show 1 < m by omega)
        obtain ⟨rfl, rfl⟩ : b0 = b1 ∧ o0 = o1 := by injection hA1 with h; injection h with h1 h2; exact ⟨h1, h2⟩
        clear hA1
        have hc0' : wr.cell? ⟨b0, o0, none⟩ = some (.int .u8 (x0.toNat : Int)) := (hbel.cell (p := ⟨b0, o0, none⟩) hb0').trans (by simpa using hc0)
        have hc1' : wr.cell? ⟨b0, o0 + 1, none⟩ = some (.int .u8 (x1.toNat : Int)) := (hbel.cell (p := ⟨b0, o0 + 1, none⟩) hb0').trans hc1
        have HN := Lib.hid (num2 rest x0 x1 hx0 hx1)
        clear hc0 hc1 hx0 hx1 hb1'
        have hm0 : (0 : Int) < (m : Int) := by omega
        have hm1 : (1 : Int) < (m : Int) := by omega
        have hx0b := x0.toNat_lt
        have hx1b := x1.toNat_lt
        go_wp2
        go_quiet (fail)
        simp only [or_256]
        rw [← HN.out]
        have hq2 := numL2_lt rest
        have hbq : Below w2.heap.size w2 (wr.drewN nq) := drewN_below hbel nq
        have hoq := HO.out
        rw [show wr.ownsRow w2.heap.size 9 1 u8 out.length ((out.map bs).map Value.string) = (wr.drewN nq).ownsRow w2.heap.size 9 1 u8 out.length ((out.map bs).map Value.string) from rfl] at hoq
        clear HN hx0b hx1b hc0' hc1' hbel HO
        generalize wr.drewN nq = wq at hbq hoq ⊢
        have HO := Lib.hid hoq
        clear hoq
        have hbW := hbel2.trans (hbq.mono hbel2.size)
        have HSh := Lib.hid (show ¬ rest.length < 2 from by have := HRL.out; omega)
        obtain ⟨g, rfl⟩ : ∃ g, f = g + 1 := ⟨f - 1, by omega⟩
        by_cases h3 : numL (rest.take 2) ≤ 300
        · by_cases h4 : m < 2 + numL (rest.take 2)
          · have HZ := Lib.hid (feed_wait g rest HSh.out (by omega) (by have := HRL.out; omega))
            generalize numL (rest.take 2) = q at h3 h4 hq2 ⊢
            have HL0 := Lib.hid (World.ownsRow_lit (base := wq.heap.size) (e := 5) (size := 1) wq #[] 0 (Nat.le_refl _) (Nat.zero_le _) rfl)
            go_wp2_with (first | (at_builtin; refine wpList_app _ rfl (.tmp 51) (.tmp 52) 24 24 rfl wq.heap.size 5 i0 (.int .u8 0) 1 1 Try.underlying24 hi hz0 hz1 hz2 rfl (by decide) _ 0 _ rfl HL0.out _ _ _ rfl (src_bytes _ Try.underlying24 (HR.out.below (hbq.alloc hbq.size _))) (by unfold maxLen; omega) (by omega) (by simp) ?_; intro v3 w3 hown3 hg3 hat3; have hbel3 : Below wq.heap.size wq w3 := ((Below.refl _ _).alloc (Nat.le_refl _) _).grown hg3 (by simp) (fun q hq => (HL0.out.lt q hq).1)))
            go_ret3
            have hown4 := own1 (ys := rest) hown3 (by simp [bv])
            refine Feds.of (hbW.trans (hbel3.mono hbW.size)) rfl (fedV_some (o := out) (r := rest) (by have := HL.out; omega) (by rw [← HT.out, ← HF.out, HZ.out]; simp [onto])) (Sl.below (ownR_strs HO.out ?_).toSl hbel3) (ownR_bytes hown4).toSl
            intro x hx
            obtain ⟨y, hy, rfl⟩ := List.mem_map.1 hx
            have := HX.out y hy
            rw [bs_size]
            unfold maxLen
            omega
          · have HZ := Lib.hid (feed_on out g rest HSh.out (by omega) (by have := HRL.out; omega))
            have HC1 := Lib.hid (HR.out.cut hmc 2 (2 + numL (rest.take 2)) (by omega) (by omega))
            have HC2 := Lib.hid (HR.out.cut hmc (2 + numL (rest.take 2)) m (by omega) (by omega))
            generalize numL (rest.take 2) = q at h3 h4 hq2 HZ HC1 HC2 ⊢
            have e2 : ((2 : Int) + (q : Int)).toNat = 2 + q := by omega
            have e3 := run_string_of_bytes (P := Try.prog) wq 24 5 Try.underlying24 Try.underlying5 (c := cc - 2) (HC1.out.below hbq)
            simp only [cByte, show 2 + q - 2 = q from by omega] at e3
            have e4 := fun w => slice_lh (P := Try.prog) w 24 (some ⟨b0, o0, none⟩) m cc Try.underlying24 infoSizeB .i64 .i64 2 (2 + (q : Int)) (by omega) (by omega) (by omega)
            rw [e2, show (2 : Int).toNat = 2 from rfl, show 2 + q - 2 = q from by omega] at e4
            have e5 := fun w => slice_l (P := Try.prog) w 24 (some ⟨b0, o0, none⟩) m cc Try.underlying24 infoSizeB .i64 (2 + (q : Int)) (by omega) (by omega)
            rw [e2] at e5
            go_wp2_with (first | (at_builtin; refine wpList_app _ rfl (.tmp 38) (.tmp 44) 23 23 rfl w2.heap.size 9 j0 (.string .empty) 1 16 Try.underlying23 hj hy0 hy1 hy2 rfl (by decide) _ _ _ rfl (HO.out.alloc _) _ 1 _ rfl (src_new _ Try.underlying23 1 1 _ rfl (by intro u hu; simp at hu; subst hu; rfl)) (by unfold maxLen; omega) (by omega) (by have := hbq.size; simp; omega) ?_; intro v3 w3 hown3 hg3 hat3; have hbel3 : Below w2.heap.size w2 w3 := (hbq.alloc hbq.size _).grown hg3 (by have := hbq.size; simp; omega) (fun q hq => (HO.out.lt q hq).1)))
            have HO3 := Lib.hid hown3
            clear hown3 hg3 hat3 e2 e3 e4 e5
            go_roundw
            case rel =>
              refine ⟨_, _, _, g, _, out ++ [(rest.drop 2).take q], rfl, by omega, by omega, HC2.out, by omega, by rw [List.take_of_length_le (l := rest.drop (2 + q)) (by have := HRL.out; simp; omega), ← HZ.out]; exact HF.out, by simp; omega, ?_, ?_, hbel3⟩
              · intro x hx
                rcases List.mem_append.1 hx with hx | hx
                · exact HX.out x hx
                · simp at hx
                  subst hx
                  simp
                  omega
              · simpa using HO3.out
            case measure => simp [lenOf]; omega
        · have HZ := Lib.hid (feed_long g rest HSh.out (by omega))
          generalize numL (rest.take 2) = q at h3 hq2 ⊢
          go_wp2
          go_ret3
          exact Feds.of hbW rfl (fedV_none (by have := HL.out; omega) (by rw [← HT.out, ← HF.out, HZ.out]; rfl)) (Sl.nil _ _) (Sl.nil _ _)
  · have hv : fedV held l = (11, [], []) := by unfold fedV; rw [if_pos (by omega)]
    have HV := Lib.hid hv
    clear hv hl hl' h h'
    go_enter Try.func32, Try.ntmps32
    go_wp2
    go_ret3
    exact Feds.of (Below.refl _ _) rfl HV.out (Sl.nil _ _) (Sl.nil _ _)

set_option maxRecDepth 100000 in
set_option maxHeartbeats 1600000 in
theorem fed_any (W : World) (A A' : Option Addr) (n c n' c' : Nat) (held l : List UInt8) (h : SlR cByte W (lt W.heap.size) A n held) (h' : SlR cByte W (lt W.heap.size) A' n' l) (hn : n ≤ 1048576) (hn' : n' ≤ 1048576) :
    Calls Try.prog 33 #[.slice A n c, .slice A' n' c'] W (Feds held l W) := by
  have hl := h.1
  have hl' := h'.1
  obtain ⟨j0, hj, hy0, hy1, hy2⟩ := info_parts infoStr
  by_cases h301 : n ≤ 301
  · have HL := Lib.hid hl
    have HL' := Lib.hid hl'
    have e1 := run_string_of_bytes (P := Try.prog) W 24 5 Try.underlying24 Try.underlying5 (c := c) h
    have e2 := run_string_of_bytes (P := Try.prog) W 24 5 Try.underlying24 Try.underlying5 (c := c') h'
    have hz1 := bs_size held
    have hz2 := bs_size l
    have hz1' : (bs held).size ≤ 301 := by omega
    have hz2' : (bs l).size ≤ 1048576 := by omega
    obtain ⟨T, hT⟩ : ∃ T, T = held ++ l := ⟨_, rfl⟩
    have HA := Lib.hid (show bs held ++ bs l = bs T from by rw [hT, bs_append])
    have hTl : T.length ≤ 2097152 := by rw [hT, List.length_append]; omega
    have HT := Lib.hid hT
    clear hl hl' h h' hz1 hz2 hT
    go_enter Try.func33, Try.ntmps33
    go_wp2
    simp only [HA.out]
    clear e1 e2 HA hz1' hz2'
    go_loopw [7, 8] (fun a v wr => ∃ (f : Nat) (rest : List UInt8) (out : List (List UInt8)), a = .string (bs rest) ∧ rest.length < f ∧
        onto out (feedR f rest) = feedR (T.length + 1) T ∧ out.length ≤ 2097152 - rest.length ∧ rest.length ≤ 2097152 ∧ (∀ x ∈ out, x.length ≤ 300) ∧ wr.ownsRow W.heap.size 9 1 v out.length ((out.map bs).map Value.string) ∧ Below W.heap.size W wr) (fun a _ _ => lenOf a)
    case atStart => exact ⟨T.length + 1, T, [], rfl, by omega, onto_nil _, Nat.zero_le _, hTl, by simp, World.ownsRow_nil _ _ _ _, Below.refl _ _⟩
    case round =>
      obtain ⟨f, rest, out, rfl, hf, hfeed, hol, hrl, ho3, hown, hbel⟩ := hrel
      have HF := Lib.hid hfeed
      have HO := Lib.hid hown
      have HX := Lib.hid ho3
      clear hfeed hown ho3
      have hsz := bs_size rest
      by_cases h2 : rest.length < 2
      · have HZ := Lib.hid (feed_short f rest h2)
        go_wp2
        go_ret3
        have hbw := bytesWorld_below wr 5 (bs rest)
        refine Feds.of (hbel.trans (hbw.mono hbel.size)) rfl (fedV_some (o := out) (r := rest) (by have := HL.out; omega) (by rw [← HT.out, ← HF.out, HZ.out]; simp [onto])) (Sl.below (ownR_strs HO.out ?_).toSl hbw) (bytesWorld_sl _ _ _ (by unfold maxLen; omega))
        intro x hx
        obtain ⟨y, hy, rfl⟩ := List.mem_map.1 hx
        have := HX.out y hy
        rw [bs_size]
        unfold maxLen
        omega
      · obtain ⟨g, rfl⟩ : ∃ g, f = g + 1 := ⟨f - 1, by omega⟩
        go_wp2_with fail
        refine (number_any (rest.take 2) _ (by simp; omega)).mono ?_
        rintro e w' ⟨rfl, rfl⟩
        have hq2 := numL2_lt rest
        by_cases h3 : numL (rest.take 2) ≤ 300
        · by_cases h4 : rest.length < 2 + numL (rest.take 2)
          · have HZ := Lib.hid (feed_wait g rest h2 (by omega) (by omega))
            generalize numL (rest.take 2) = q at h3 h4 hq2 ⊢
            go_wp2
            go_ret3
            have hbw := bytesWorld_below wr 5 (bs rest)
            refine Feds.of (hbel.trans (hbw.mono hbel.size)) rfl (fedV_some (o := out) (r := rest) (by have := HL.out; omega) (by rw [← HT.out, ← HF.out, HZ.out]; simp [onto])) (Sl.below (ownR_strs HO.out ?_).toSl hbw) (bytesWorld_sl _ _ _ (by unfold maxLen; omega))
            intro x hx
            obtain ⟨y, hy, rfl⟩ := List.mem_map.1 hx
            have := HX.out y hy
            rw [bs_size]
            unfold maxLen
            omega
          · have HZ := Lib.hid (feed_on out g rest h2 (by omega) (by omega))
            generalize numL (rest.take 2) = q at h3 h4 hq2 HZ ⊢
            have e2 : ((2 : Int) + (q : Int)).toNat = 2 + q := by omega
            have e3 := IntWalk.i64_in ((2 : Int) + (q : Int)) (by omega)
            have h5 : (2 : Int) + (q : Int) ≤ (rest.length : Int) := by omega
            have h6 : (2 : Int) ≤ 2 + (q : Int) := by omega
            have h7 : (0 : Int) ≤ 2 + (q : Int) := by omega
            have e8 : (rest.drop (2 + q)).take (rest.length - (2 + q)) = rest.drop (2 + q) := List.take_of_length_le (by simp)
            go_wp2
            go_region_law (refine step_app (o := ⟨some 44, _, _, _, _, _⟩) _ rfl (.tmp 38) (.tmp 43) 23 23 rfl W.heap.size 9 j0 (.string .empty) 1 16 Try.underlying23 hj hy0 hy1 hy2 rfl (by decide) _ out.length ((out.map bs).map Value.string) rfl ?_ _ 1 ?_ rfl ?_ ?_ ?_ ?_ ?_; exact (HO.out.alloc _).drew; rotate_left; exact src_one _ Try.underlying23 _ 1 _ (cell_new1D _ (.string _) _) rfl; (unfold maxLen; omega); omega; (have := hbel.size; simp; omega); intro v3 w3 hown3 hg3 hat3)
            have hbel3 : Below W.heap.size W w3 := ((hbel.alloc hbel.size _).drew).grown hg3 (by have := hbel.size; simp; omega) (fun q hq => (HO.out.lt q hq).1)
            have HO3 := Lib.hid hown3
            clear hown3 hg3 hat3
            go_simp
            go_roundw
            case rel =>
              (repeat apply Exists.intro)
              refine ⟨?_, rfl⟩
              refine ⟨g, rest.drop (2 + q), out ++ [(rest.drop 2).take q], rfl, by simp; omega, by rw [← HZ.out]; exact HF.out, by simp; omega, by simp; omega, ?_, ?_, hbel3⟩
              · intro x hx
                rcases List.mem_append.1 hx with hx | hx
                · exact HX.out x hx
                · simp at hx
                  subst hx
                  simp
                  omega
              · simpa using HO3.out
            case measure => simp [lenOf, bs_size]; omega
        · have HZ := Lib.hid (feed_long g rest h2 (by omega))
          generalize numL (rest.take 2) = q at h3 hq2 ⊢
          go_wp2
          go_ret3
          exact Feds.of hbel rfl (fedV_none (by have := HL.out; omega) (by rw [← HT.out, ← HF.out, HZ.out]; rfl)) (Sl.nil _ _) (Sl.nil _ _)
  · have hv : fedV held l = (11, [], []) := by unfold fedV; rw [if_pos (by omega)]
    have HV := Lib.hid hv
    clear hv hl hl' h h'
    go_enter Try.func33, Try.ntmps33
    go_wp2
    go_ret3
    exact Feds.of (Below.refl _ _) rfl HV.out (Sl.nil _ _) (Sl.nil _ _)

set_option maxHeartbeats 400000 in
theorem walkWireFeeds (W : World) (A0 : Option Addr) (n0 c0 : Nat) (a0 : (List UInt8)) (h0 : (cSlice cByte).rel W (lt W.heap.size) (.slice A0 n0 c0 : Value).cells.toList a0) (A1 : Option Addr) (n1 c1 : Nat) (a1 : (List UInt8)) (h1 : (cSlice cByte).rel W (lt W.heap.size) (.slice A1 n1 c1 : Value).cells.toList a1) (hk : (cSlice cByte).bulk a0 + (cSlice cByte).bulk a1 ≤ 1048576) :
    Calls Try.prog 10 #[.slice A0 n0 c0, .slice A1 n1 c1] W fun e W' => e = .returned (.bool true) ∧ Below W.heap.size W W' := by
  obtain ⟨A, n, cap, he, h01, h02, h03⟩ := h0
  simp [Value.cells] at he
  obtain ⟨rfl, rfl, rfl⟩ := he
  obtain ⟨A', n', cap', he', h11, h12, h13⟩ := h1
  simp [Value.cells] at he'
  obtain ⟨rfl, rfl, rfl⟩ := he'
  have b0 := bulk_bytes a0
  have b1 := bulk_bytes a1
  have l0 := h03.1
  have l1 := h13.1
  have C1 := Lib.hid (feed_any W A0 A1 n0 c0 n1 c1 a0 a1 h03 h13 (by omega) (by omega))
  have C2 := Lib.hid (fun w (hb : Below W.heap.size W w) => fed_any w A0 A1 n0 c0 n1 c1 a0 a1 ((h03.below hb).up hb.size) ((h13.below hb).up hb.size) (by omega) (by omega))
  have hol : (fedV a0 a1).2.1.length ≤ 9223372036854775807 := fedV_len a0 a1 (by omega)
  clear h01 h02 h03 h11 h12 h13 b0 b1 l0 l1 hk
  unfold Feds at C1 C2
  have HL := Lib.hid hol
  clear hol
  generalize fedV a0 a1 = r at C1 C2 HL
  go_enter Try.func10, Try.ntmps10
  go_wp2_with fail
  refine C1.out.mono ?_
  rintro e w1 ⟨hb1, v1, u1, rfl, hs1, ht1⟩
  have S1 := Lib.hid hs1
  have T1 := Lib.hid ht1
  clear hs1 ht1
  go_wp2_with fail
  refine (C2.out _ hb1).mono ?_
  rintro e w2 ⟨hb2, v2, u2, rfl, hs2, ht2⟩
  have S2 := Lib.hid hs2
  have T2 := Lib.hid ht2
  clear hs2 ht2
  go_wp2_with fail
  refine (sameTexts_any w2 v1 v2 _ (S1.out.below hb2) S2.out (by rw [List.length_map]; exact HL.out)).mono ?_
  rintro e w3 ⟨rfl, m, rfl⟩
  go_wp2_with fail
  refine (sameBytes_any (w2.drewN m) u1 u2 _ (T1.out.below (drewN_below hb2 m)) (T2.out.below (drewN_below (Below.refl _ _) m))).mono ?_
  rintro e w4 ⟨rfl, rfl⟩
  go_wp2
  go_ret
  exact ⟨rfl, drewN_below (hb1.trans (hb2.mono hb1.size)) m⟩
end Go.Proofs.Ytbpibblidokhfaa
