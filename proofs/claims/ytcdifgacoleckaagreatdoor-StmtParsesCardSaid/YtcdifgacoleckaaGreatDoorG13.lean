/- Part of the proof: steps of the program over abstract states. No condition. -/
import Derived.Test.YtcdifgacoleckaaGreatDoorG06
import Derived.Test.YtcdifgacoleckaaGreatDoorG12
set_option linter.unusedVariables false
set_option linter.unusedSimpArgs false
namespace Go.Proofs.YtcdifgacoleckaaGreatDoor
open Go Go.RowKit Go.Proofs.YtcdifgacoleckaaGreatDoor.Ab
set_option maxRecDepth 100000
set_option maxHeartbeats 4000000
def zXQ (l : List Tok) (g : Stp) : Prop := ∀ p c, p <= l.length -> Szs c p -> zEU Tryz.prog spC 52 gY (mcC l p c) [.one (.ptr 900006 0 0)] ((g c ⟨p, 0⟩).2.e = 0) (.tup []) (mcC l (g c ⟨p, 0⟩).2.p (g c ⟨p, 0⟩).1) (chT (g c ⟨p, 0⟩).2)
theorem zV7 (l : List Tok) (ho : zAW l) (p0 : Nat) (c0 : Cmd) (g : Stp) (hf : zXQ l g) (hw : Fw l g) (hz : SzD g) (hp0 : p0 <= l.length) (hz0 : Szs c0 p0) : zEU Tryz.prog spC 48 (gY) (mcC l p0 c0) [ptS, .one (.clo 52 [(900006, 0, 0)])] ((zBk l g (l.length + 1) c0 ⟨p0, 0⟩).2.e = 0) (.tup []) (mcC l (zBk l g (l.length + 1) c0 ⟨p0, 0⟩).2.p (zBk l g (l.length + 1) c0 ⟨p0, 0⟩).1) (chT (zBk l g (l.length + 1) c0 ⟨p0, 0⟩).2) := by
 refine zFX 12 Tryz.func48 fun X hnt => ?_
 have hm' : l.length <= 9223372036854775807 := Nat.le_trans ho.1 (by decide)
 have h1 := hf p0 c0 hp0 hz0
 have hz1 := hz c0 ⟨p0, 0⟩ p0 hz0
 have hfw := hw c0 ⟨p0, 0⟩
 rw [zBg]
 generalize g c0 ⟨p0, 0⟩ = A at h1 hz1 hfw ⊢
 obtain ⟨c1, p1, e1⟩ := A
 dsimp only at h1 hz1 hfw ⊢
 by_cases he : e1 = 0
 rotate_left
 ·unfold zBq
  rw [zAV he, if_neg Bool.noConfusion]
  refine zP 1 [(900000, 900000), (900006, 900006)] kr [] (h1.2 he) fun _ => ?_
  exact ⟨fun hh => absurd hh he, fun _ => ⟨rfl, zKa rfl rfl rfl rfl rfl rfl⟩⟩
 subst he
 refine zH [(900000, 900000), (900006, 900006)] kr kr (h1.1 rfl) ?_
 repeat' apply zn
 refine zAx (σ := Nat × Cmd × Nat) (fun x => St.of [(0, .one (.ptr 900000 0 0)), (1, .one (.clo 52 [(900006, 0, 0)])), (900000, .one (.ptr 900000 0 0)), (900006, .one (.ptr 900006 0 0)) , (1000003, .one (.eptr spE)), (1000005, .one (.eptr fsE)), (1000006, .one (.eptr acE))] (mcC l x.2.2 x.2.1)) (fun x => zBq l g x.1 x.2.1 ⟨x.2.2, 0⟩ = zBq l g l.length c1 ⟨p1, 0⟩ /\ x.2.2 <= l.length /\ l.length - x.2.2 <= x.1 /\ Szs x.2.1 (x.2.2 + 1)) (fun x => x.1) (l.length, c1, p1) zle ⟨rfl, hfw.2 hp0, Nat.sub_le _ _, hz1.mono (Nat.succ_le_succ hfw.1)⟩ ?_
 rintro ⟨n, c, p⟩ ⟨hJ, hp, hn, hsz⟩
 dsimp only at hJ hp hn hsz ⊢
 clear h1 hfw hz1
 have hk := fun u => zCg l ho.1 p u 6 [44]
 refine zQ 900000 mk2 hk ?_
 clear hk
 cases hs : zAc l ⟨p, 0⟩ ⟨6, [44], 0, 0⟩ with
 | true =>
  have hlt := (zAw.1 hs).2.1
  dsimp only at hlt
  refine zc (fun hc => ?_) fun hc => ?_
  ·obtain ⟨m, rfl⟩ : ∃ m, n = m + 1 := ⟨n - 1, by omega⟩
   have hJ2 : zBq l g (m + 1) c ⟨p, 0⟩ = zBq l g m (g c ⟨p + 1, 0⟩).1 (g c ⟨p + 1, 0⟩).2 := by
    rw [zBq, if_pos (show zAc l ⟨p, 0⟩ zFo = true from hs), zBg]
   rw [hJ2] at hJ
   refine zAq (s' := St.of [(0, .one (.ptr 900000 0 0)), (1, .one (.clo 52 [(900006, 0, 0)])), (900000, .one (.ptr 900000 0 0)), (900006, .one (.ptr 900006 0 0)) , (1000003, .one (.eptr spE)), (1000005, .one (.eptr fsE)), (1000006, .one (.eptr acE))] (mcC l (p + 1) c)) zle ?_
   have h1 := hf (p + 1) c hlt hsz
   have hz1 := hz c ⟨p + 1, 0⟩ (p + 1) hsz
   have hfw := hw c ⟨p + 1, 0⟩
   generalize g c ⟨p + 1, 0⟩ = A at h1 hz1 hfw hJ ⊢
   obtain ⟨c2, p2, e1⟩ := A
   dsimp only at h1 hz1 hfw hJ ⊢
   by_cases he : e1 = 0
   rotate_left
   ·rw [<-hJ]
    unfold zBq
    rw [zAV he, if_neg Bool.noConfusion]
    refine zP 1 [(900000, 900000), (900006, 900006)] kr [] (h1.2 he) fun _ => ?_
    exact ⟨fun hh => absurd hh he, fun _ => ⟨rfl, zKa rfl rfl rfl rfl rfl rfl⟩⟩
   subst he
   refine zH [(900000, 900000), (900006, 900006)] kr kr (h1.1 rfl) ?_
   exact ⟨(m, c2, p2), ⟨hJ, hfw.2 hlt, (by have h3 := hfw.1; show l.length - p2 <= m; omega), hz1.mono (Nat.succ_le_succ hfw.1)⟩, Nat.lt_succ_self m, zle⟩
  exact absurd hc Bool.noConfusion
 | false =>
  refine zc (fun hc => ?_) fun hc => ?_
  ·exact absurd hc Bool.noConfusion
  refine zAt ?_
  rw [<-hJ]
  unfold zBq
  rw [if_neg (show ¬ zAc l ⟨p, 0⟩ zFo = true by rw [show zAc l ⟨p, 0⟩ zFo = false from hs]; exact Bool.noConfusion)]
  repeat' apply zn
  exact ⟨fun _ => ⟨.inl rfl, _, _, _, rfl, zzp, rfl, fun X => zle⟩, fun hh => absurd rfl hh⟩
def zXR (l : List Tok) (g : Stp) : Prop := ∀ p c, p <= l.length -> Szs c p -> zEU Tryz.prog spD 84 gY (mqC l p c) [.one (.ptr 900006 0 0), .one (.ptr 900007 0 0)] ((g c ⟨p, 0⟩).2.e = 0) (.tup []) (mqC l (g c ⟨p, 0⟩).2.p (g c ⟨p, 0⟩).1) (chT (g c ⟨p, 0⟩).2)
theorem zV8 (l : List Tok) (ho : zAW l) (p0 : Nat) (c0 : Cmd) (g : Stp) (hf : zXR l g) (hw : Fw l g) (hz : SzD g) (hp0 : p0 <= l.length) (hz0 : Szs c0 p0) : zEU Tryz.prog spD 48 (gY) (mqC l p0 c0) [ptS, .one (.clo 84 [(900006, 0, 0), (900007, 0, 0)])] ((zBk l g (l.length + 1) c0 ⟨p0, 0⟩).2.e = 0) (.tup []) (mqC l (zBk l g (l.length + 1) c0 ⟨p0, 0⟩).2.p (zBk l g (l.length + 1) c0 ⟨p0, 0⟩).1) (chT (zBk l g (l.length + 1) c0 ⟨p0, 0⟩).2) := by
 refine zFX 12 Tryz.func48 fun X hnt => ?_
 have hm' : l.length <= 9223372036854775807 := Nat.le_trans ho.1 (by decide)
 have h1 := hf p0 c0 hp0 hz0
 have hz1 := hz c0 ⟨p0, 0⟩ p0 hz0
 have hfw := hw c0 ⟨p0, 0⟩
 rw [zBg]
 generalize g c0 ⟨p0, 0⟩ = A at h1 hz1 hfw ⊢
 obtain ⟨c1, p1, e1⟩ := A
 dsimp only at h1 hz1 hfw ⊢
 by_cases he : e1 = 0
 rotate_left
 ·unfold zBq
  rw [zAV he, if_neg Bool.noConfusion]
  refine zP 1 [(900000, 900000), (900006, 900006), (900007, 900007)] kr [] (h1.2 he) fun _ => ?_
  exact ⟨fun hh => absurd hh he, fun _ => ⟨rfl, zO9 rfl rfl rfl rfl rfl rfl rfl rfl rfl⟩⟩
 subst he
 refine zH [(900000, 900000), (900006, 900006), (900007, 900007)] kr kr (h1.1 rfl) ?_
 repeat' apply zn
 refine zAx (σ := Nat × Cmd × Nat) (fun x => St.of [(0, .one (.ptr 900000 0 0)), (1, .one (.clo 84 [(900006, 0, 0), (900007, 0, 0)])), (900000, .one (.ptr 900000 0 0)), (900006, .one (.ptr 900006 0 0)), (900007, .one (.ptr 900007 0 0)) , (1000003, .one (.eptr spE)), (1000005, .one (.eptr fsE)), (1000006, .one (.eptr acE))] (mqC l x.2.2 x.2.1)) (fun x => zBq l g x.1 x.2.1 ⟨x.2.2, 0⟩ = zBq l g l.length c1 ⟨p1, 0⟩ /\ x.2.2 <= l.length /\ l.length - x.2.2 <= x.1 /\ Szs x.2.1 (x.2.2 + 1)) (fun x => x.1) (l.length, c1, p1) zle ⟨rfl, hfw.2 hp0, Nat.sub_le _ _, hz1.mono (Nat.succ_le_succ hfw.1)⟩ ?_
 rintro ⟨n, c, p⟩ ⟨hJ, hp, hn, hsz⟩
 dsimp only at hJ hp hn hsz ⊢
 clear h1 hfw hz1
 have hk := fun u => zCg l ho.1 p u 6 [44]
 refine zQ 900000 mk2 hk ?_
 clear hk
 cases hs : zAc l ⟨p, 0⟩ ⟨6, [44], 0, 0⟩ with
 | true =>
  have hlt := (zAw.1 hs).2.1
  dsimp only at hlt
  refine zc (fun hc => ?_) fun hc => ?_
  ·obtain ⟨m, rfl⟩ : ∃ m, n = m + 1 := ⟨n - 1, by omega⟩
   have hJ2 : zBq l g (m + 1) c ⟨p, 0⟩ = zBq l g m (g c ⟨p + 1, 0⟩).1 (g c ⟨p + 1, 0⟩).2 := by
    rw [zBq, if_pos (show zAc l ⟨p, 0⟩ zFo = true from hs), zBg]
   rw [hJ2] at hJ
   refine zAq (s' := St.of [(0, .one (.ptr 900000 0 0)), (1, .one (.clo 84 [(900006, 0, 0), (900007, 0, 0)])), (900000, .one (.ptr 900000 0 0)), (900006, .one (.ptr 900006 0 0)), (900007, .one (.ptr 900007 0 0)) , (1000003, .one (.eptr spE)), (1000005, .one (.eptr fsE)), (1000006, .one (.eptr acE))] (mqC l (p + 1) c)) zle ?_
   have h1 := hf (p + 1) c hlt hsz
   have hz1 := hz c ⟨p + 1, 0⟩ (p + 1) hsz
   have hfw := hw c ⟨p + 1, 0⟩
   generalize g c ⟨p + 1, 0⟩ = A at h1 hz1 hfw hJ ⊢
   obtain ⟨c2, p2, e1⟩ := A
   dsimp only at h1 hz1 hfw hJ ⊢
   by_cases he : e1 = 0
   rotate_left
   ·rw [<-hJ]
    unfold zBq
    rw [zAV he, if_neg Bool.noConfusion]
    refine zP 1 [(900000, 900000), (900006, 900006), (900007, 900007)] kr [] (h1.2 he) fun _ => ?_
    exact ⟨fun hh => absurd hh he, fun _ => ⟨rfl, zO9 rfl rfl rfl rfl rfl rfl rfl rfl rfl⟩⟩
   subst he
   refine zH [(900000, 900000), (900006, 900006), (900007, 900007)] kr kr (h1.1 rfl) ?_
   exact ⟨(m, c2, p2), ⟨hJ, hfw.2 hlt, (by have h3 := hfw.1; show l.length - p2 <= m; omega), hz1.mono (Nat.succ_le_succ hfw.1)⟩, Nat.lt_succ_self m, zle⟩
  exact absurd hc Bool.noConfusion
 | false =>
  refine zc (fun hc => ?_) fun hc => ?_
  ·exact absurd hc Bool.noConfusion
  refine zAt ?_
  rw [<-hJ]
  unfold zBq
  rw [if_neg (show ¬ zAc l ⟨p, 0⟩ zFo = true by rw [show zAc l ⟨p, 0⟩ zFo = false from hs]; exact Bool.noConfusion)]
  repeat' apply zn
  exact ⟨fun _ => ⟨.inl rfl, _, _, _, rfl, zzp, rfl, fun X => zle⟩, fun hh => absurd rfl hh⟩
theorem zPA (l : List Tok) (s : Spot) : s.p <= (zBQ l s).p /\ (s.p <= l.length -> (zBQ l s).p <= l.length) := by
 rw [zKp]
 exact ⟨Nat.le_refl _, id⟩
theorem zIw {l : List Tok} {s : Spot} {k : Int} (h : zAU l s = k) (hk : k ≠ 0) : s.p <= s.p + 1 /\ (s.p <= l.length -> s.p + 1 <= l.length) :=
 ⟨Nat.le_succ _, fun _ => (zCj (l := l) (s := s) (by rw [h]; exact hk)).2.1⟩
theorem zPB {l : List Tok} {s : Spot} (h : s.e ≠ 0) : zBQ l s = s := by
 unfold zBQ
 rw [if_neg h]
theorem zUy (l : List Tok) (s : Spot) : s.p <= (zEh l s).2.p /\ (s.p <= l.length -> (zEh l s).2.p <= l.length) := by
 unfold zEh
 by_cases h1 : zAc l s zGx = true
 ·rw [if_pos h1]
  exact zAu (t := ⟨s.p + 1, s.e⟩) (zAH h1) (zBS l ⟨s.p + 1, s.e⟩ zBV)
 rw [if_neg h1]
 by_cases h2 : zAc l s zB8 = true
 ·rw [if_pos h2]; exact zAH h2
 rw [if_neg h2]
 by_cases h3 : zAc l s zLK = true
 ·rw [if_pos h3]; exact zAH h3
 rw [if_neg h3]
 by_cases h4 : zAc l s zLL = true
 ·rw [if_pos h4]; exact zAH h4
 rw [if_neg h4]
 by_cases h5 : zAU l s = 3
 ·rw [if_pos h5]; exact zIw h5 (by decide)
 rw [if_neg h5]
 by_cases h6 : zAU l s = 5
 ·rw [if_pos h6]; exact zIw h6 (by decide)
 rw [if_neg h6]
 by_cases h7 : zAU l s = 4
 ·rw [if_pos h7]; exact zIw h7 (by decide)
 rw [if_neg h7]
 exact zPA l s
theorem zJk (l : List Tok) : Fw l (zIb l) := fun c s => zUy l s
theorem zUz {l : List Tok} {s : Spot} (h : s.e ≠ 0) : (zEh l s).2 = s := by
 have k0 : zAU l s = 0 := zFb h
 unfold zEh
 rw [zAV h, zAV h, zAV h, zAV h, if_neg Bool.noConfusion, if_neg Bool.noConfusion, if_neg Bool.noConfusion, if_neg Bool.noConfusion, k0, if_neg (by decide), if_neg (by decide), if_neg (by decide)]
 exact zPB h
theorem zLB (l : List Tok) : Bd (zIb l) := fun c s h => zUz h
theorem zNZ (l : List Tok) : SzD (zIb l) := fun c s n h => ⟨Nat.le_succ_of_le h.cs, by simpa [zIb] using h.ro, Nat.le_succ_of_le h.ss, Nat.le_succ_of_le h.is, Nat.le_succ_of_le h.so⟩
theorem zHF (l : List Tok) : Fw l (zHG l) := fun c s => zAu (zBS l s zFp) ((zJf l).past _ [zP5])
theorem zRv (l : List Tok) : Bd (zHG l) := fun c s h => by
 obtain ⟨p, e⟩ := s
 unfold zHG
 rw [zAI h zFp, zAX h, zH6 h]
theorem zOc (l : List Tok) : SzD (zHG l) := fun c s n h => ⟨Nat.le_succ_of_le h.cs, Nat.le_succ_of_le h.ro, by simpa [zHG] using h.ss, Nat.le_succ_of_le h.is, Nat.le_succ_of_le h.so⟩
theorem zN6 (l : List Tok) : Fw l (zHk l) := fun c s => by
 unfold zHk
 refine zAu (zBS l s zBV) ?_
 dsimp only
 split
 ·rename_i h; exact zAH h
 ·exact ⟨Nat.le_refl _, id⟩
theorem zTS (l : List Tok) : Bd (zHk l) := fun c s h => by
 obtain ⟨p, e⟩ := s
 unfold zHk
 dsimp only
 rw [zAI h zBV]
 dsimp only
 rw [zDU h, if_neg Bool.noConfusion]
theorem zN5 (l : List Tok) : SzD (zHk l) := fun c s n h => ⟨Nat.le_succ_of_le h.cs, Nat.le_succ_of_le h.ro, Nat.le_succ_of_le h.ss, Nat.le_succ_of_le h.is, by simpa [zHk] using h.so⟩
theorem zPm (l : List Tok) : Bd (zG8 l) := fun c s h => by
 obtain ⟨p, e⟩ := s
 unfold zG8
 dsimp only
 rw [zAI h zFp]
 dsimp only
 rw [zOC h]
 dsimp only
 rw [zDU h, if_neg Bool.noConfusion]
theorem zOA {l : List Tok} {s : Spot} : ∀ {ws : List Byt} {i : Int}, (ooF l s i ws).1 ≠ 0 -> ∃ w, zAc l s (wdT w) = true
 | [], i, h => absurd (by rw [ooF]) h
 | w :: r, i, h => by
  rw [ooF] at h
  by_cases hw : w ≠ [] /\ zAc l s (wdT w) = true
  ·exact ⟨w, hw.2⟩
  ·rw [if_neg hw] at h
   exact zOA h
theorem zVe {l : List Tok} {s : Spot} (h : ¬ agF l s = 0) : s.p <= s.p + 1 /\ (s.p <= l.length -> s.p + 1 <= l.length) := by
 obtain ⟨w, hw⟩ := zOA h
 exact zAH hw
theorem zHQ (l : List Tok) : Fw l (zGj l) := fun c s => by
 unfold zGj
 by_cases h0 : agF l s = 0
 ·rw [if_pos h0]
  exact zJf l s
 rw [if_neg h0]
 have hf := zAu (t := ⟨s.p + 1, s.e⟩) (zVe h0) (zAo l [zBf] ⟨s.p + 1, s.e⟩)
 by_cases h1 : agF l s = 1
 ·rw [if_pos h1]
  exact zAu hf (zAu (zAo l [zJn] _) (zAo l [zB7] _))
 rw [if_neg h1]
 exact zAu hf (zAu (zJf l _) (zAo l [zB7] _))
theorem zJV (l : List Tok) : SzD (zGj l) := fun c s n h => by
 unfold zGj
 split
 ·exact ⟨Nat.le_succ_of_le h.cs, Nat.le_succ_of_le h.ro, Nat.le_succ_of_le h.ss, by simpa using h.is, Nat.le_succ_of_le h.so⟩
 split
 ·exact ⟨Nat.le_succ_of_le h.cs, Nat.le_succ_of_le h.ro, Nat.le_succ_of_le h.ss, by simpa using h.is, Nat.le_succ_of_le h.so⟩
 ·exact ⟨Nat.le_succ_of_le h.cs, Nat.le_succ_of_le h.ro, Nat.le_succ_of_le h.ss, by simpa using h.is, Nat.le_succ_of_le h.so⟩
theorem zLN {l : List Tok} {g : Stp} (hw : Fw l g) (hz : SzD g) : ∀ (n : Nat) (c : Cmd) (s : Spot), Szs c (s.p + 1) -> Szs (zBq l g n c s).1 ((zBq l g n c s).2.p + 1)
 | 0, c, s, h => by
  unfold zBq
  split
  ·exact h.mono (Nat.succ_le_succ (Nat.le_succ _))
  ·exact h
 | n + 1, c, s, h => by
  unfold zBq
  split
  ·rw [zBg]
   exact zLN hw hz n _ _ ((hz c ⟨s.p + 1, s.e⟩ _ h).mono (Nat.succ_le_succ (hw c ⟨s.p + 1, s.e⟩).1))
  ·exact h
theorem zQC {l : List Tok} {g : Stp} (hw : Fw l g) (hz : SzD g) (n : Nat) (c : Cmd) (s : Spot) (h : Szs c s.p) : Szs (zBk l g (n + 1) c s).1 ((zBk l g (n + 1) c s).2.p + 1) := by
 rw [zBg]
 exact zLN hw hz n _ _ ((hz c s _ h).mono (Nat.succ_le_succ (hw c s).1))
theorem zQq {l : List Tok} {s : Spot} {t : Tok} (h : (zAk l s [t]).e = 0) : (zAk l s [t]).p = s.p + 1 := by
 rw [zAQ] at h ⊢
 by_cases hs : zAc l s t = true
 ·rw [if_pos hs]
  rfl
 ·rw [if_neg hs] at h
  exfalso
  unfold zBQ at h
  by_cases he : s.e = 0
  ·rw [if_pos he] at h
   revert h
   show ¬ (if l.length <= s.p then (4 : Int) else 3) = 0
   split <;> decide
  ·rw [if_neg he] at h
   exact he h
def sqF (g h : Stp) : Stp := fun c s => h (g c s).1 (g c s).2
theorem zBt {g h : Stp} {c c' : Cmd} {s s' : Spot} (e : g c s = (c', s')) : sqF g h c s = h c' s' := by
 unfold sqF
 rw [e]
theorem zBE {g h : Stp} (a : Bd g) (b : Bd h) : Bd (sqF g h) := fun c s he => by
 have h1 := a c s he
 unfold sqF
 rw [h1]
 exact b _ _ he
theorem zDh {l : List Tok} {g h : Stp} (a : Fw l g) (b : Fw l h) : Fw l (sqF g h) := fun c s => zAu (a c s) (b _ _)
def zMY : Tok := wdT [71, 82, 79, 85, 80]
def zEx : Tok := wdT [66, 89]
def zMW : Tok := wdT [79, 82, 68, 69, 82]
def zKB : Tok := wdT [76, 73, 77, 73, 84]
def zTl (l : List Tok) : Stp := fun c s => (c, zAk l s [zB3])
def zPL (l : List Tok) : Stp := fun c s => ({ c with q := { c.q with w := (whF l s).1 } }, (whF l s).2)
def zMp (l : List Tok) : Stp := fun c s => if zAc l s zMY = true then
 ({ c with q := { c.q with g := (zBl l (zAk l ⟨s.p + 1, s.e⟩ [zEx]) 1).1.t } }, (zBl l (zAk l ⟨s.p + 1, s.e⟩ [zEx]) 1).2) else (c, s)
def zNe (l : List Tok) : Stp := fun c s => if zAc l s zMW = true then zBk l (zHk l) (l.length + 1) c (zAk l ⟨s.p + 1, s.e⟩ [zEx]) else (c, s)
def zNT (l : List Tok) : Stp := fun c s => if zAc l s zKB = true then
 ({ c with q := { c.q with c := true, m := (zBl l ⟨s.p + 1, s.e⟩ 3).1.i } }, (zBl l ⟨s.p + 1, s.e⟩ 3).2) else (c, s)
def zNd (l : List Tok) : Stp := sqF (zBk l (zGj l) (l.length + 1)) (sqF (zTl l) (sqF (ofF l false) (sqF (zPL l) (sqF (zMp l) (sqF (zNe l) (zNT l))))))
theorem zUP (l : List Tok) : Bd (zTl l) := fun c s h => zBJ h
theorem zRm {l : List Tok} {s : Spot} (h : s.e ≠ 0) : whF l s = (ex0, s) := by
 unfold whF
 rw [zAV h, if_neg Bool.noConfusion]
theorem zNV (l : List Tok) : Bd (zPL l) := fun c s h => by
 unfold zPL
 rw [zRm h]
theorem zMo (l : List Tok) : Bd (zMp l) := fun c s h => by
 unfold zMp
 rw [zAV h, if_neg Bool.noConfusion]
theorem zHK (l : List Tok) : Bd (zNe l) := fun c s h => by
 unfold zNe
 rw [zAV h, if_neg Bool.noConfusion]
theorem zFS (l : List Tok) : Bd (zNT l) := fun c s h => by
 unfold zNT
 rw [zAV h, if_neg Bool.noConfusion]
theorem zQx (l : List Tok) (d : Bool) : Bd (ofF l d) := fun c s h => by
 obtain ⟨p, e⟩ := s
 unfold ofF zHw zJp
 cases d with
 | true => rw [if_pos rfl, zAI h zBV, zAX h, zAI h zFp]; dsimp only; rw [zAX h, zAI h zBV]
 | false => rw [if_neg Bool.noConfusion, zAI h zBV, zAX h, zAI h zFp]
theorem zDZ (l : List Tok) (d : Bool) : Fw l (ofF l d) := fun c s => by
 unfold ofF zHw zJp
 have h := zAu (zBS l s zBV) (zAu (zAo l [zRp] _) (zBS l (zAk l (zBl l s 3).2 [zRp]) zFp))
 cases d with
 | true => exact zAu h (zAu (zAo l [zKD] _) (zBS l _ zBV))
 | false => exact h
theorem zJP (l : List Tok) (d : Bool) {c : Cmd} {n : Nat} (h : Szs c n) (s : Spot) : Szs (ofF l d c s).1 n := by
 unfold ofF zHw zJp
 cases d with
 | true => exact ⟨h.cs, h.ro, h.ss, h.is, h.so⟩
 | false => exact ⟨h.cs, h.ro, h.ss, h.is, h.so⟩
theorem zH9 (l : List Tok) (s : Spot) : s.p <= (whF l s).2.p /\ (s.p <= l.length -> (whF l s).2.p <= l.length) := by
 unfold whF
 split
 ·exact (zJf l).past s [zMV]
 ·exact ⟨Nat.le_refl _, id⟩
theorem zTC (l : List Tok) : Fw l (zPL l) := fun c s => zH9 l s
theorem zMn (l : List Tok) : Fw l (zMp l) := fun c s => by
 unfold zMp
 split
 ·rename_i h
  exact zAu (t := ⟨s.p + 1, s.e⟩) (zAH h) (zAu (zAo l [zEx] _) (zBS l _ zFp))
 ·exact ⟨Nat.le_refl _, id⟩
theorem zUc (l : List Tok) : Fw l (zNe l) := fun c s => by
 unfold zNe
 split
 ·rename_i h
  exact zAu (t := ⟨s.p + 1, s.e⟩) (zAH h) (zAu (zAo l [zEx] _) (zCD (zN6 l) _ _ _))
 ·exact ⟨Nat.le_refl _, id⟩
theorem zUB (l : List Tok) : Fw l (zNT l) := fun c s => by
 unfold zNT
 split
 ·rename_i h
  exact zAu (t := ⟨s.p + 1, s.e⟩) (zAH h) (zBS l _ zBV)
 ·exact ⟨Nat.le_refl _, id⟩
def msY (l : List Tok) (p : Nat) (c : Cmd) : List (Nat × Blk) := [(900000, ⟨0, .box (.ds (bxC l p c)), 0⟩), (900001, ⟨0, .row 3 (c.cs.map zCm), 0⟩), (900002, ⟨0, .row 4 (c.ro.map zBw), 0⟩), (900003, ⟨0, .row 8 (c.ss.map zCe), 0⟩), (900004, ⟨0, .row 8 (c.q.is.map zBP), 0⟩), (900005, ⟨0, .row 2 (c.q.ss.map zC3), 0⟩), (1, ⟨0, .box (.ds [.ptr 900000 0 0]), 0⟩)]
def msZ (l : List Tok) (p : Nat) (c : Cmd) : List (Nat × Blk) := [(900000, ⟨0, .box (.ds (bxC l p c)), 0⟩), (900001, ⟨0, .row 3 (c.cs.map zCm), 0⟩), (900002, ⟨0, .row 4 (c.ro.map zBw), 0⟩), (900003, ⟨0, .row 8 (c.ss.map zCe), 0⟩), (900004, ⟨0, .row 8 (c.q.is.map zBP), 0⟩), (900005, ⟨0, .row 2 (c.q.ss.map zC3), 0⟩), (1, ⟨0, .box (.ds [.ptr 900000 0 0]), 0⟩), (2, ⟨0, .box (.ds [.ptr 900000 0 16]), 0⟩)]
theorem zVu : Fld [66, 89] [[66, 89]] := zzF
theorem zLc (l : List Tok) {c : Cmd} {n : Nat} (h : Szs c n) (s : Spot) : Szs (zMp l c s).1 n := by
 unfold zMp
 split
 ·exact ⟨h.cs, h.ro, h.ss, h.is, h.so⟩
 ·exact h
theorem zT3 (l : List Tok) (ho : zAW l) (hL : l.length <= 100) (p : Nat) (c : Cmd) (hp : p <= l.length) (hz : Szs c p) : zEU Tryz.prog [(900000, 31)] 55 (gY) (msC l p c) [ptS] ((zNd l c ⟨p, 0⟩).2.e = 0) (.tup []) (msC l (zNd l c ⟨p, 0⟩).2.p (zNd l c ⟨p, 0⟩).1) (chT (zNd l c ⟨p, 0⟩).2) := by
 refine zFX 58 Tryz.func55 fun X hnt => ?_
 unfold zNd
 repeat' first | refine zx ?_ | apply zn
 have h1 := zSG l ho p c 83 (zGj l) (fun p c hp hz => zWc l ho hL p c hp hz) (zHQ l) (zJV l) hp hz
 have hf1 := (zCD (zHQ l) (l.length + 1) c ⟨p, 0⟩).2 hp
 have hz1 := zQC (zHQ l) (zJV l) l.length c ⟨p, 0⟩ hz
 rcases hA : zBk l (zGj l) (l.length + 1) c ⟨p, 0⟩ with ⟨c1, p1, e1⟩
 rw [hA] at h1 hf1 hz1
 rw [zBt hA]
 clear hA hz hp
 dsimp only at h1 hf1 hz1
 by_cases he : e1 = 0
 rotate_left
 ·rw [zBE (zUP l) (zBE (zQx l false) (zBE (zNV l) (zBE (zMo l) (zBE (zHK l) (zFS l))))) c1 ⟨p1, e1⟩ he]
  refine zP 3 [(900000, 900000)] kr [] (h1.2 he) fun _ => ?_
  exact ⟨fun hh => absurd hh he, fun _ => ⟨rfl, zAv rfl rfl rfl⟩⟩
 subst he
 refine zH [(900000, 900000)] kr kr (h1.1 rfl) ?_
 refine zAq (s' := St.of [(1, .one (.ptr 1 0 0)), (900000, .one (.ptr 900000 0 0)) , (1000003, .one (.eptr spE)), (1000005, .one (.eptr fsE)), (1000006, .one (.eptr acE))] (msY l p1 c1)) zle ?_
 clear h1
 have h1 := zC5 l ho p1 zB3 [70, 82, 79, 77] rfl zVs
 have hf2 := (zAo l [zB3] ⟨p1, 0⟩).2 hf1
 have hz2 := zQq (l := l) (s := ⟨p1, 0⟩) (t := zB3)
 rcases hA : zAk l ⟨p1, 0⟩ [zB3] with ⟨p2, e1⟩
 rw [hA] at h1 hf2 hz2
 rw [zBt (show zTl l c1 ⟨p1, 0⟩ = (c1, ⟨p2, e1⟩) by unfold zTl; rw [hA])]
 clear hA
 dsimp only at h1 hf2 hz2
 by_cases he : e1 = 0
 rotate_left
 ·rw [zBE (zQx l false) (zBE (zNV l) (zBE (zMo l) (zBE (zHK l) (zFS l)))) c1 ⟨p2, e1⟩ he]
  refine zPQ 1 900000 mk2 (fun u => (h1 u).2 he) fun _ => ?_
  exact ⟨fun hh => absurd hh he, fun _ => ⟨rfl, zAv rfl rfl rfl⟩⟩
 subst he
 refine zQ 900000 mk2 (fun u => (h1 u).1 rfl) ?_
 clear h1
 refine zAq (s' := St.of [(1, .one (.ptr 1 0 0)), (900000, .one (.ptr 900000 0 0)) , (1000003, .one (.eptr spE)), (1000005, .one (.eptr fsE)), (1000006, .one (.eptr acE))] (msY l p2 c1)) zle ?_
 have hz2 := hz2 rfl
 rw [<-hz2] at hz1
 clear hz2 hf1
 have h1 := ofT l ho p2 c1 false
 have hf1 := (zDZ l false c1 ⟨p2, 0⟩).2 hf2
 have hz2 := zJP l false hz1 ⟨p2, 0⟩
 have hz3 := (zDZ l false c1 ⟨p2, 0⟩).1
 rcases hA : ofF l false c1 ⟨p2, 0⟩ with ⟨c3, p3, e1⟩
 rw [hA] at h1 hf1 hz2 hz3
 rw [zBt hA]
 clear hA hz1 hf2
 dsimp only at h1 hf1 hz2 hz3
 by_cases he : e1 = 0
 rotate_left
 ·rw [zBE (zNV l) (zBE (zMo l) (zBE (zHK l) (zFS l))) c3 ⟨p3, e1⟩ he]
  refine zP 1 [(900000, 900000)] kr [] (h1.2 he) fun _ => ?_
  exact ⟨fun hh => absurd hh he, fun _ => ⟨rfl, zAv rfl rfl rfl⟩⟩
 subst he
 refine zH [(900000, 900000)] kr kr (h1.1 rfl) ?_
 have hz1 := hz2.mono hz3
 clear hz2 hz3 h1
 refine zAq (s' := St.of [(1, .one (.ptr 1 0 0)), (900000, .one (.ptr 900000 0 0)) , (1000003, .one (.eptr spE)), (1000005, .one (.eptr fsE)), (1000006, .one (.eptr acE))] (msY l p3 c3)) zle ?_
 repeat' first | refine zx ?_ | apply zn
 refine zAq (s' := St.of [(1, .one (.ptr 1 0 0)), (2, .one (.ptr 2 0 0)), (900000, .one (.ptr 900000 0 0)) , (1000003, .one (.eptr spE)), (1000005, .one (.eptr fsE)), (1000006, .one (.eptr acE))] (msZ l p3 c3)) zle ?_
 have h1 := fun u => zNW l ho p3 u hf1
 have hf2 := (zH9 l ⟨p3, 0⟩).2 hf1
 have hz2 := (zH9 l ⟨p3, 0⟩).1
 rcases hA : whF l ⟨p3, 0⟩ with ⟨x, p4, e1⟩
 rw [hA] at h1 hf2 hz2
 rw [zBt (show zPL l c3 ⟨p3, 0⟩ = ({ c3 with q := { c3.q with w := x } }, ⟨p4, e1⟩) by unfold zPL; rw [hA])]
 clear hA
 dsimp only at h1 hf2 hz2
 by_cases he : e1 = 0
 rotate_left
 ·rw [zBE (zMo l) (zBE (zHK l) (zFS l)) _ ⟨p4, e1⟩ he]
  repeat' apply zn
  refine zC6 (T := tab) tOk hnt zAO [1] 0 2 (zA2 (T := tab) rfl ?_ (.nil _)) (zA2 (T := tab) rfl ?_ (.nil _)) rfl (zA8 900000 mk2 [] rfl rfl rfl (fun u => (h1 u).2 he) rfl rfl (fun _ => rfl) rfl (fun _ _ _ => zg) rfl rfl rfl (fun s' ht hm x => ?_)) (zA8 900000 mk2 [] rfl rfl rfl (fun u => (h1 u).2 he) rfl rfl (fun _ => rfl) rfl (fun _ _ _ => zg) rfl rfl rfl (fun s' ht hm x => ?_)) (by decide +kernel) (by decide +kernel)
  ·exact zzt
  ·exact zzt
  ·exact ⟨fun hh => absurd hh he, fun _ => ⟨rfl, zAv (ht 900000 (by decide)).symm rfl rfl⟩⟩
  ·exact ⟨fun hh => absurd hh he, fun _ => ⟨rfl, zAv (ht 900000 (by decide)).symm rfl rfl⟩⟩
 subst he
 simp only [zAp x] at h1
 repeat' apply zn
 refine zAK (T := tab) tOk hnt zAO (zA2 (T := tab) rfl ?_ (zDM 900000 mk2 rfl rfl rfl (fun u => (h1 u).1 trivial) rfl rfl (fun _ => rfl) (fun _ => rfl) rfl (fun _ _ _ => zg) rfl rfl rfl rfl (fun _ => rfl) (zA2 (T := tab) rfl ?_ (.nil _)))) (by first | decide +kernel | kernel_rfl) ?_
 ·exact zzt
 ·exact zzt
 clear h1
 have hz3 : Szs { c3 with q := { c3.q with w := x } } p4 := ⟨Nat.le_trans hz1.cs hz2, Nat.le_trans hz1.ro hz2, Nat.le_trans hz1.ss hz2, Nat.le_trans hz1.is hz2, Nat.le_trans hz1.so hz2⟩
 refine zAq (s' := St.of [(1, .one (.ptr 1 0 0)), (2, .one (.ptr 2 0 0)), (900000, .one (.ptr 900000 0 0)) , (1000003, .one (.eptr spE)), (1000005, .one (.eptr fsE)), (1000006, .one (.eptr acE))] (msZ l p4 ({ c3 with q := { c3.q with w := x } }))) zle ?_
 clear hz1 hz2 hf1
 generalize hcc : { c3 with q := { c3.q with w := x } } = c4 at hz3 ⊢
 clear hcc
 have hk := fun u => zCg l ho.1 p4 u 2 [71,82,79,85,80]
 refine zQ 900000 mk2 hk ?_
 clear hk
 refine zBy (σ := Cmd × Nat) (fun x => St.of [(1, .one (.ptr 1 0 0)), (2, .one (.ptr 2 0 0)), (900000, .one (.ptr 900000 0 0)) , (1000003, .one (.eptr spE)), (1000005, .one (.eptr fsE)), (1000006, .one (.eptr acE))] (msZ l x.2 x.1)) (fun x => zMp l c4 ⟨p4, 0⟩ = (x.1, ⟨x.2, 0⟩)) ?_ ?_
 ·cases hs : zAc l ⟨p4, 0⟩ ⟨2, [71, 82, 79, 85, 80], 0, 0⟩ with
  | true =>
   have e0 : zMp l c4 ⟨p4, 0⟩ = _ := if_pos (show zAc l ⟨p4, 0⟩ zMY = true from hs)
   refine zc (fun hc => ?_) fun hc => ?_
   ·refine zAq (s' := St.of [(1, .one (.ptr 1 0 0)), (2, .one (.ptr 2 0 0)), (900000, .one (.ptr 900000 0 0)) , (1000003, .one (.eptr spE)), (1000005, .one (.eptr fsE)), (1000006, .one (.eptr acE))] (msZ l (p4 + 1) c4)) zle ?_
    have h1 := zC5 l ho (p4 + 1) zEx [66, 89] rfl zVu
    dsimp only at e0
    rcases hA : zAk l ⟨p4 + 1, 0⟩ [zEx] with ⟨p5, e1⟩
    rw [hA] at h1 e0
    clear hA
    dsimp only at h1
    by_cases he : e1 = 0
    rotate_left
    ·rw [zAI he zFp] at e0
     rw [zBt e0, zBE (zHK l) (zFS l) _ ⟨p5, e1⟩ he]
     refine zPQ 1 900000 mk2 (fun u => (h1 u).2 he) fun _ => ?_
     exact ⟨fun hh => absurd hh he, fun _ => ⟨rfl, zAv rfl rfl rfl⟩⟩
    subst he
    refine zQ 900000 mk2 (fun u => (h1 u).1 rfl) ?_
    clear h1
    refine zAq (s' := St.of [(1, .one (.ptr 1 0 0)), (2, .one (.ptr 2 0 0)), (900000, .one (.ptr 900000 0 0)) , (1000003, .one (.eptr spE)), (1000005, .one (.eptr fsE)), (1000006, .one (.eptr acE))] (msZ l p5 c4)) zle ?_
    have h1 := zNf l ho p5 1 (by decide)
    rcases hA : zBl l ⟨p5, 0⟩ 1 with ⟨t1, p6, e1⟩
    rw [hA] at h1 e0
    clear hA
    dsimp only at h1
    by_cases he : e1 = 0
    rotate_left
    ·rw [zBt e0, zBE (zHK l) (zFS l) _ ⟨p6, e1⟩ he]
     repeat' apply zn
     refine zC6 (T := tab) tOk hnt zAO [1,2,3] 0 4 (zA2 (T := tab) rfl ?_ (.nil _)) (zA2 (T := tab) rfl ?_ (.nil _)) rfl (zA8 900000 mk2 [] rfl rfl rfl (fun u => (h1 u).2 he) rfl rfl (fun _ => rfl) rfl (fun _ _ _ => zg) rfl rfl rfl (fun s' ht hm x => ?_)) (zA8 900000 mk2 [] rfl rfl rfl (fun u => (h1 u).2 he) rfl rfl (fun _ => rfl) rfl (fun _ _ _ => zg) rfl rfl rfl (fun s' ht hm x => ?_)) (by decide +kernel) (by decide +kernel)
     ·exact zzt
     ·exact zzt
     ·exact ⟨fun hh => absurd hh he, fun _ => ⟨rfl, zAv (ht 900000 (by decide)).symm rfl rfl⟩⟩
     ·exact ⟨fun hh => absurd hh he, fun _ => ⟨rfl, zAv (ht 900000 (by decide)).symm rfl rfl⟩⟩
    subst he
    repeat' apply zn
    refine zAK (T := tab) tOk hnt zAO (zA2 (T := tab) rfl ?_ (zDM 900000 mk2 rfl rfl rfl (fun u => (h1 u).1 rfl) rfl rfl (fun _ => rfl) (fun _ => rfl) rfl (fun _ _ _ => zg) rfl rfl rfl rfl (fun _ => rfl) (zA2 (T := tab) rfl ?_ (.nil _)))) (by first | decide +kernel | kernel_rfl) ?_
    ·exact zzt
    ·exact zzt
    exact ⟨(_, p6), e0, zle⟩
   exact absurd hc Bool.noConfusion
  | false =>
   refine zc (fun hc => ?_) fun hc => ?_
   ·exact absurd hc Bool.noConfusion
   repeat' apply zn
   exact ⟨(c4, p4), if_neg (by rw [show zAc l ⟨p4, 0⟩ zMY = false from hs]; exact Bool.noConfusion), zle⟩
 rintro ⟨c5, p5⟩ hJ
 dsimp only at hJ ⊢
 rw [zBt hJ]
 have hf3 := (zMn l c4 ⟨p4, 0⟩).2 hf2
 have hz1 := (zMn l c4 ⟨p4, 0⟩).1
 have hz4 := zLc l hz3 ⟨p4, 0⟩
 rw [hJ] at hf3 hz1 hz4
 dsimp only at hf3 hz1 hz4
 have hz4 := hz4.mono hz1
 clear hJ hz3 hz1 hf2
 have hk := fun u => zCg l ho.1 p5 u 2 [79,82,68,69,82]
 refine zQ 900000 mk2 hk ?_
 clear hk
 refine zBy (σ := Cmd × Nat) (fun x => St.of [(1, .one (.ptr 1 0 0)), (2, .one (.ptr 2 0 0)), (900000, .one (.ptr 900000 0 0)) , (1000003, .one (.eptr spE)), (1000005, .one (.eptr fsE)), (1000006, .one (.eptr acE))] (msZ l x.2 x.1)) (fun x => zNe l c5 ⟨p5, 0⟩ = (x.1, ⟨x.2, 0⟩)) ?_ ?_
 ·cases hs : zAc l ⟨p5, 0⟩ ⟨2, [79, 82, 68, 69, 82], 0, 0⟩ with
  | true =>
   have e0 : zNe l c5 ⟨p5, 0⟩ = _ := if_pos (show zAc l ⟨p5, 0⟩ zMW = true from hs)
   have hlt := (zAw.1 hs).2.1
   dsimp only at hlt
   refine zc (fun hc => ?_) fun hc => ?_
   ·refine zAq (s' := St.of [(1, .one (.ptr 1 0 0)), (2, .one (.ptr 2 0 0)), (900000, .one (.ptr 900000 0 0)) , (1000003, .one (.eptr spE)), (1000005, .one (.eptr fsE)), (1000006, .one (.eptr acE))] (msZ l (p5 + 1) c5)) zle ?_
    have h1 := zC5 l ho (p5 + 1) zEx [66, 89] rfl zVu
    have hf4 := (zAo l [zEx] ⟨p5 + 1, 0⟩).2 hlt
    have hz5 := (zAo l [zEx] ⟨p5 + 1, 0⟩).1
    dsimp only at e0
    rcases hA : zAk l ⟨p5 + 1, 0⟩ [zEx] with ⟨p6, e1⟩
    rw [hA] at h1 e0 hf4 hz5
    clear hA
    dsimp only at h1 hf4 hz5
    by_cases he : e1 = 0
    rotate_left
    ·rw [zBt (c' := (zBk l (zHk l) (l.length + 1) c5 ⟨p6, e1⟩).1) (s' := ⟨p6, e1⟩) (e0.trans (Prod.ext rfl (zOP (zTS l) _ _ he))), zFS l _ ⟨p6, e1⟩ he]
     refine zPQ 1 900000 mk2 (fun u => (h1 u).2 he) fun _ => ?_
     exact ⟨fun hh => absurd hh he, fun _ => ⟨rfl, zAv rfl rfl rfl⟩⟩
    subst he
    refine zQ 900000 mk2 (fun u => (h1 u).1 rfl) ?_
    clear h1
    refine zAq (s' := St.of [(1, .one (.ptr 1 0 0)), (2, .one (.ptr 2 0 0)), (900000, .one (.ptr 900000 0 0)) , (1000003, .one (.eptr spE)), (1000005, .one (.eptr fsE)), (1000006, .one (.eptr acE))] (msZ l p6 c5)) zle ?_
    have h1 := zV8 l ho p6 c5 (zHk l) (fun p c hp hz => zVG l ho hL p c hp hz) (zN6 l) (zN5 l) hf4 (hz4.mono (by omega))
    rcases hA : zBk l (zHk l) (l.length + 1) c5 ⟨p6, 0⟩ with ⟨c6, p7, e1⟩
    rw [hA] at h1 e0
    clear hA
    dsimp only at h1
    by_cases he : e1 = 0
    rotate_left
    ·rw [zBt e0, zFS l _ ⟨p7, e1⟩ he]
     refine zP 2 [(900000, 900000), (900006, 1), (900007, 2)] kr [] (h1.2 he) fun _ => ?_
     exact ⟨fun hh => absurd hh he, fun _ => ⟨rfl, zAv rfl rfl rfl⟩⟩
    subst he
    refine zH [(900000, 900000), (900006, 1), (900007, 2)] kr kr (h1.1 rfl) ?_
    exact ⟨(c6, p7), e0, zle⟩
   exact absurd hc Bool.noConfusion
  | false =>
   refine zc (fun hc => ?_) fun hc => ?_
   ·exact absurd hc Bool.noConfusion
   repeat' apply zn
   exact ⟨(c5, p5), if_neg (by rw [show zAc l ⟨p5, 0⟩ zMW = false from hs]; exact Bool.noConfusion), zle⟩
 rintro ⟨c6, p6⟩ hJ
 dsimp only at hJ ⊢
 rw [zBt hJ]
 clear hJ
 unfold zNT
 dsimp only
 have hk := fun u => zCg l ho.1 p6 u 2 [76,73,77,73,84]
 refine zQ 900000 mk2 hk ?_
 clear hk
 cases hs : zAc l ⟨p6, 0⟩ ⟨2, [76, 73, 77, 73, 84], 0, 0⟩ with
 | true =>
  rw [if_pos (show zAc l ⟨p6, 0⟩ zKB = true from hs)]
  refine zc (fun hc => ?_) fun hc => ?_
  ·refine zAq (s' := St.of [(1, .one (.ptr 1 0 0)), (2, .one (.ptr 2 0 0)), (900000, .one (.ptr 900000 0 0)) , (1000003, .one (.eptr spE)), (1000005, .one (.eptr fsE)), (1000006, .one (.eptr acE))] (msZ l (p6 + 1) c6)) zle ?_
   have h1 := zNf l ho (p6 + 1) 3 (by decide)
   rcases hA : zBl l ⟨p6 + 1, 0⟩ 3 with ⟨t1, p7, e1⟩
   rw [hA] at h1
   clear hA
   dsimp only at h1 ⊢
   by_cases he : e1 = 0
   rotate_left
   ·repeat' apply zn
    refine zC6 (T := tab) tOk hnt zAO [0,2,3,4] 1 5 (zA2 (T := tab) rfl ?_ (.nil _)) (zA2 (T := tab) rfl ?_ (.nil _)) rfl (zA8 900000 mk2 [] rfl rfl rfl (fun u => (h1 u).2 he) rfl rfl (fun _ => rfl) rfl (fun _ _ _ => zg) rfl rfl rfl (fun s' ht hm x => ?_)) (zA8 900000 mk2 [] rfl rfl rfl (fun u => (h1 u).2 he) rfl rfl (fun _ => rfl) rfl (fun _ _ _ => zg) rfl rfl rfl (fun s' ht hm x => ?_)) (by decide +kernel) (by decide +kernel)
    ·exact zzt
    ·exact zzt
    ·exact ⟨fun hh => absurd hh he, fun _ => ⟨rfl, zAv (ht 900000 (by decide)).symm rfl rfl⟩⟩
    ·exact ⟨fun hh => absurd hh he, fun _ => ⟨rfl, zAv (ht 900000 (by decide)).symm rfl rfl⟩⟩
   subst he
   repeat' apply zn
   refine zAK (T := tab) tOk hnt zAO (zA2 (T := tab) rfl ?_ (zDM 900000 mk2 rfl rfl rfl (fun u => (h1 u).1 rfl) rfl rfl (fun _ => rfl) (fun _ => rfl) rfl (fun _ _ _ => zg) rfl rfl rfl rfl (fun _ => rfl) (zA2 (T := tab) rfl ?_ (.nil _)))) (by first | decide +kernel | kernel_rfl) ?_
   ·exact zzt
   ·exact zzt
   exact ⟨fun _ => ⟨.inl rfl, _, _, _, rfl, zzp, rfl, fun X => zle⟩, fun hh => absurd rfl hh⟩
  exact absurd hc Bool.noConfusion
 | false =>
  rw [if_neg (show ¬ zAc l ⟨p6, 0⟩ zKB = true by rw [show zAc l ⟨p6, 0⟩ zKB = false from hs]; exact Bool.noConfusion)]
  refine zc (fun hc => ?_) fun hc => ?_
  ·exact absurd hc Bool.noConfusion
  repeat' apply zn
  exact ⟨fun _ => ⟨.inl rfl, _, _, _, rfl, zzp, rfl, fun X => zle⟩, fun hh => absurd rfl hh⟩
def SzP (g : Stp) : Prop := ∀ c s n, Szs c n -> Szs (g c s).1 n
def zKF : Tok := wdT [67, 82, 69, 65, 84, 69]
def zGy : Tok := wdT [73, 78, 83, 69, 82, 84]
def zKx : Tok := wdT [85, 80, 68, 65, 84, 69]
def zKE : Tok := wdT [68, 69, 76, 69, 84, 69]
def zKy : Tok := wdT [83, 69, 76, 69, 67, 84]
def zFr : Tok := wdT [73, 78, 84, 79]
def zDP : Tok := wdT [86, 65, 76, 85, 69, 83]
def zEY : Tok := wdT [83, 69, 84]
def zDf (l : List Tok) (t : Tok) : Stp := fun c s => (c, zAk l s [t])
def zRH (l : List Tok) : Stp := fun c s => ({ c with tb := (zBl l s 1).1.t }, (zBl l s 1).2)
def zMS (l : List Tok) : Stp := fun c s => ({ c with wh := (whF l s).1 }, (whF l s).2)
def zWX (l : List Tok) : Stp := sqF (zDf l zEw) (sqF (zRH l) (sqF (zDf l zBf) (sqF (zBk l (zG8 l) (l.length + 1)) (zDf l zB7))))
def zWf (l : List Tok) : Stp := sqF (zDf l zFr) (sqF (ofF l true) (sqF (zDf l zDP) (sqF (zDf l zBf) (sqF (zBk l (zIb l) (l.length + 1)) (zDf l zB7)))))
def zVC (l : List Tok) : Stp := sqF (ofF l true) (sqF (zDf l zEY) (sqF (zBk l (zHG l) (l.length + 1)) (zMS l)))
def zWr (l : List Tok) : Stp := sqF (zDf l zB3) (sqF (ofF l true) (zMS l))
def zHm (l : List Tok) (c : Cmd) (s : Spot) : Cmd × Spot :=
 if zAc l s zKF = true then zWX l { c with k := 1 } ⟨s.p + 1, s.e⟩ else
 if zAc l s zGy = true then zWf l { c with k := 2 } ⟨s.p + 1, s.e⟩ else
 if zAc l s zKx = true then zVC l { c with k := 3 } ⟨s.p + 1, s.e⟩ else
 if zAc l s zKE = true then zWr l { c with k := 4 } ⟨s.p + 1, s.e⟩ else
 if zAc l s zKy = true then zNd l { c with k := 5 } ⟨s.p + 1, s.e⟩ else zLW l c s
theorem zCv (l : List Tok) (t : Tok) : Bd (zDf l t) := fun _ _ h => zBJ h
theorem zEA (l : List Tok) (t : Tok) : Fw l (zDf l t) := fun _ s => zAo l [t] s
theorem zEz (l : List Tok) (t : Tok) : SzP (zDf l t) := fun _ _ _ h => h
theorem zUj (l : List Tok) : Bd (zRH l) := fun c s h => by
 obtain ⟨p, e⟩ := s
 unfold zRH
 rw [zAI h zFp]
theorem zUh (l : List Tok) : Fw l (zRH l) := fun _ s => zBS l s zFp
theorem zUg (l : List Tok) : SzP (zRH l) := fun _ _ _ h => ⟨h.cs, h.ro, h.ss, h.is, h.so⟩
theorem zJi (l : List Tok) : Bd (zMS l) := fun c s h => by
 unfold zMS
 rw [zRm h]
theorem zKW (l : List Tok) (d : Bool) : SzP (ofF l d) := fun _ s _ h => zJP l d h s
theorem zIt {l : List Tok} {g : Stp} (h : Bd g) : Bd (zBk l g (l.length + 1)) := zOP h
theorem zQD {l : List Tok} {g : Stp} (h : Fw l g) : Fw l (zBk l g (l.length + 1)) := zCD h _
theorem zUN : Fld [73, 78, 84, 79] [[73, 78, 84, 79]] := zzF
theorem zUL : Fld [86, 65, 76, 85, 69, 83] [[86, 65, 76, 85, 69, 83]] := zzF
theorem zUM : Fld [83, 69, 84] [[83, 69, 84]] := zzF
theorem zQ2 (l : List Tok) (ho : zAW l) (hL : l.length <= 100) (p : Nat) (c : Cmd) (hp : p <= l.length) (hz : Szs c p) : zEU Tryz.prog [(900000, 31)] 16 (gY) (msC l p c) [ptS] ((zHm l c ⟨p, 0⟩).2.e = 0) (.tup []) (msC l (zHm l c ⟨p, 0⟩).2.p (zHm l c ⟨p, 0⟩).1) (chT (zHm l c ⟨p, 0⟩).2) := by
 refine zFX 107 Tryz.func16 fun X hnt => ?_
 unfold zHm
 repeat' first | refine zx ?_ | apply zn
 refine zAq (s' := St.of [(1, .one (.ptr 1 0 0)), (900000, .one (.ptr 900000 0 0)) , (1000003, .one (.eptr spE)), (1000005, .one (.eptr fsE)), (1000006, .one (.eptr acE))] (msY l p c)) zle ?_
 have hk := fun u => zCg l ho.1 p u 2 [67,82,69,65,84,69]
 refine zQ 900000 mk2 hk ?_
 clear hk
 cases hs : zAc l ⟨p, 0⟩ ⟨2, [67, 82, 69, 65, 84, 69], 0, 0⟩ with
 | true =>
  rw [if_pos (show zAc l ⟨p, 0⟩ zKF = true from hs)]
  have hf := (zAH hs).2 hp
  have hz : Szs { c with k := 1 } (p + 1) := ⟨Nat.le_succ_of_le hz.cs, Nat.le_succ_of_le hz.ro, Nat.le_succ_of_le hz.ss, Nat.le_succ_of_le hz.is, Nat.le_succ_of_le hz.so⟩
  refine zc (fun hc => ?_) fun hc => ?_
  ·repeat' first | refine zx ?_ | apply zn
   refine zAq (s' := St.of [(1, .one (.ptr 1 0 0)), (900000, .one (.ptr 900000 0 0)) , (1000003, .one (.eptr spE)), (1000005, .one (.eptr fsE)), (1000006, .one (.eptr acE))] (msY l (p + 1) ({ c with k := 1 }))) zle ?_
   dsimp only at hf
   generalize hcc : ({ c with k := 1 } : Cmd) = c0 at hz ⊢
   clear hcc
   generalize p + 1 = p0 at hf hz ⊢
   unfold zWX
   have h1 := zC5 l ho p0 zEw [84, 65, 66, 76, 69] rfl zWS
   have hf2 := (zAo l [zEw] ⟨p0, 0⟩).2 hf
   have hz2 := (zAo l [zEw] ⟨p0, 0⟩).1
   rcases hA : zAk l ⟨p0, 0⟩ [zEw] with ⟨q1, e1⟩
   rw [hA] at h1 hf2 hz2
   dsimp only at h1 hf2 hz2
   rw [zBt (show zDf l zEw c0 ⟨p0, 0⟩ = (c0, ⟨q1, e1⟩) by unfold zDf; rw [hA])]
   clear hA
   by_cases he : e1 = 0
   rotate_left
   ·rw [(zBE (zUj l) (zBE (zCv l zBf) (zBE (zIt (zPm l)) (zCv l zB7)))) _ ⟨q1, e1⟩ he]
    refine zPQ 1 900000 mk2 (fun u => (h1 u).2 he) fun _ => ?_
    exact ⟨fun hh => absurd hh he, fun _ => ⟨rfl, zAv rfl rfl rfl⟩⟩
   subst he
   refine zQ 900000 mk2 (fun u => (h1 u).1 rfl) ?_
   clear h1
   refine zAq (s' := St.of [(1, .one (.ptr 1 0 0)), (900000, .one (.ptr 900000 0 0)) , (1000003, .one (.eptr spE)), (1000005, .one (.eptr fsE)), (1000006, .one (.eptr acE))] (msY l q1 (c0))) zle ?_
   have hz := hz.mono hz2
   have hf := hf2
   clear hf2 hz2
   have h1 := zNf l ho q1 1 (by decide)
   have hf2 := (zBS l ⟨q1, 0⟩ zFp).2 hf
   have hz2 := (zBS l ⟨q1, 0⟩ zFp).1
   rcases hA : zBl l ⟨q1, 0⟩ 1 with ⟨t2, q2, e1⟩
   rw [hA] at h1 hf2 hz2
   dsimp only at h1 hf2 hz2
   rw [zBt (show zRH l c0 ⟨q1, 0⟩ = ({ c0 with tb := t2.t }, ⟨q2, e1⟩) by unfold zRH; rw [hA])]
   clear hA
   by_cases he : e1 = 0
   rotate_left
   ·rw [(zBE (zCv l zBf) (zBE (zIt (zPm l)) (zCv l zB7))) _ ⟨q2, e1⟩ he]
    repeat' apply zn
    refine zC6 (T := tab) tOk hnt zAO [1,2,3] 0 4 (zA2 (T := tab) rfl ?_ (.nil _)) (zA2 (T := tab) rfl ?_ (.nil _)) rfl (zA8 900000 mk2 [] rfl rfl rfl (fun u => (h1 u).2 he) rfl rfl (fun _ => rfl) rfl (fun _ _ _ => zg) rfl rfl rfl (fun s' ht hm x => ?_)) (zA8 900000 mk2 [] rfl rfl rfl (fun u => (h1 u).2 he) rfl rfl (fun _ => rfl) rfl (fun _ _ _ => zg) rfl rfl rfl (fun s' ht hm x => ?_)) (by decide +kernel) (by decide +kernel)
    ·exact zzt
    ·exact zzt
    ·exact ⟨fun hh => absurd hh he, fun _ => ⟨rfl, zAv (ht 900000 (by decide)).symm rfl rfl⟩⟩
    ·exact ⟨fun hh => absurd hh he, fun _ => ⟨rfl, zAv (ht 900000 (by decide)).symm rfl rfl⟩⟩
   subst he
   repeat' apply zn
   refine zAK (T := tab) tOk hnt zAO (zA2 (T := tab) rfl ?_ (zDM 900000 mk2 rfl rfl rfl (fun u => (h1 u).1 rfl) rfl rfl (fun _ => rfl) (fun _ => rfl) rfl (fun _ _ _ => zg) rfl rfl rfl rfl (fun _ => rfl) (zA2 (T := tab) rfl ?_ (.nil _)))) (by first | decide +kernel | kernel_rfl) ?_
   ·exact zzt
   ·exact zzt
   clear h1
   refine zAq (s' := St.of [(1, .one (.ptr 1 0 0)), (900000, .one (.ptr 900000 0 0)) , (1000003, .one (.eptr spE)), (1000005, .one (.eptr fsE)), (1000006, .one (.eptr acE))] (msY l q2 ({ c0 with tb := t2.t }))) zle ?_
   have hz : Szs ({ c0 with tb := t2.t }) q2 := ⟨Nat.le_trans hz.cs hz2, Nat.le_trans hz.ro hz2, Nat.le_trans hz.ss hz2, Nat.le_trans hz.is hz2, Nat.le_trans hz.so hz2⟩
   have hf := hf2
   clear hf2 hz2
   generalize hcc : ({ c0 with tb := t2.t } : Cmd) = c2 at hz ⊢
   clear hcc
   have h1 := zHr l ho q2 zBf [40] rfl
   have hf2 := (zAo l [zBf] ⟨q2, 0⟩).2 hf
   have hz2 := (zAo l [zBf] ⟨q2, 0⟩).1
   rcases hA : zAk l ⟨q2, 0⟩ [zBf] with ⟨q3, e1⟩
   rw [hA] at h1 hf2 hz2
   dsimp only at h1 hf2 hz2
   rw [zBt (show zDf l zBf c2 ⟨q2, 0⟩ = (c2, ⟨q3, e1⟩) by unfold zDf; rw [hA])]
   clear hA
   by_cases he : e1 = 0
   rotate_left
   ·rw [(zBE (zIt (zPm l)) (zCv l zB7)) _ ⟨q3, e1⟩ he]
    refine zPQ 1 900000 mk2 (fun u => (h1 u).2 he) fun _ => ?_
    exact ⟨fun hh => absurd hh he, fun _ => ⟨rfl, zAv rfl rfl rfl⟩⟩
   subst he
   refine zQ 900000 mk2 (fun u => (h1 u).1 rfl) ?_
   clear h1
   refine zAq (s' := St.of [(1, .one (.ptr 1 0 0)), (900000, .one (.ptr 900000 0 0)) , (1000003, .one (.eptr spE)), (1000005, .one (.eptr fsE)), (1000006, .one (.eptr acE))] (msY l q3 (c2))) zle ?_
   have hz := hz.mono hz2
   have hf := hf2
   clear hf2 hz2
   have h1 := zSG l ho q3 c2 49 (zG8 l) (fun p c hp hz => zS1 l ho hL p c hp hz) (zKg l) (zPl l) hf hz
   have hf2 := (zCD (zKg l) (l.length + 1) c2 ⟨q3, 0⟩).2 hf
   have hz2 := (zCD (zKg l) (l.length + 1) c2 ⟨q3, 0⟩).1
   rcases hA : zBk l (zG8 l) (l.length + 1) c2 ⟨q3, 0⟩ with ⟨c4, q4, e1⟩
   rw [hA] at h1 hf2 hz2
   dsimp only at h1 hf2 hz2
   rw [zBt hA]
   clear hA
   by_cases he : e1 = 0
   rotate_left
   ·rw [(zCv l zB7) _ ⟨q4, e1⟩ he]
    refine zP 3 [(900000, 900000)] kr [] (h1.2 he) fun _ => ?_
    exact ⟨fun hh => absurd hh he, fun _ => ⟨rfl, zAv rfl rfl rfl⟩⟩
   subst he
   refine zH [(900000, 900000)] kr kr (h1.1 rfl) ?_
   clear h1
   refine zAq (s' := St.of [(1, .one (.ptr 1 0 0)), (900000, .one (.ptr 900000 0 0)) , (1000003, .one (.eptr spE)), (1000005, .one (.eptr fsE)), (1000006, .one (.eptr acE))] (msY l q4 (c4))) zle ?_
   clear hz
   have hf := hf2
   clear hf2 hz2
   have h1 := zHr l ho q4 zB7 [41] rfl
   have hf2 := (zAo l [zB7] ⟨q4, 0⟩).2 hf
   have hz2 := (zAo l [zB7] ⟨q4, 0⟩).1
   rcases hA : zAk l ⟨q4, 0⟩ [zB7] with ⟨q5, e1⟩
   rw [hA] at h1 hf2 hz2
   dsimp only at h1 hf2 hz2
   rw [show zDf l zB7 c4 ⟨q4, 0⟩ = (c4, ⟨q5, e1⟩) by unfold zDf; rw [hA]]
   clear hA
   by_cases he : e1 = 0
   rotate_left
   ·skip
    refine zPQ 1 900000 mk2 (fun u => (h1 u).2 he) fun _ => ?_
    exact ⟨fun hh => absurd hh he, fun _ => ⟨rfl, zAv rfl rfl rfl⟩⟩
   subst he
   refine zQ 900000 mk2 (fun u => (h1 u).1 rfl) ?_
   clear h1
   repeat' apply zn
   exact ⟨fun _ => ⟨.inl rfl, _, _, _, rfl, zzp, rfl, fun X => zle⟩, fun hh => absurd rfl hh⟩
  exact absurd hc Bool.noConfusion
 | false =>
 rw [if_neg (show ¬ zAc l ⟨p, 0⟩ zKF = true by rw [show zAc l ⟨p, 0⟩ zKF = false from hs]; exact Bool.noConfusion)]
 refine zc (fun hc => ?_) fun hc => ?_
 ·exact absurd hc Bool.noConfusion
 clear hs
 refine zAq (s' := St.of [(1, .one (.ptr 1 0 0)), (900000, .one (.ptr 900000 0 0)) , (1000003, .one (.eptr spE)), (1000005, .one (.eptr fsE)), (1000006, .one (.eptr acE))] (msY l p c)) zle ?_
 have hk := fun u => zCg l ho.1 p u 2 [73,78,83,69,82,84]
 refine zQ 900000 mk2 hk ?_
 clear hk
 cases hs : zAc l ⟨p, 0⟩ ⟨2, [73, 78, 83, 69, 82, 84], 0, 0⟩ with
 | true =>
  rw [if_pos (show zAc l ⟨p, 0⟩ zGy = true from hs)]
  have hf := (zAH hs).2 hp
  have hz : Szs { c with k := 2 } (p + 1) := ⟨Nat.le_succ_of_le hz.cs, Nat.le_succ_of_le hz.ro, Nat.le_succ_of_le hz.ss, Nat.le_succ_of_le hz.is, Nat.le_succ_of_le hz.so⟩
  refine zc (fun hc => ?_) fun hc => ?_
  ·repeat' first | refine zx ?_ | apply zn
   refine zAq (s' := St.of [(1, .one (.ptr 1 0 0)), (900000, .one (.ptr 900000 0 0)) , (1000003, .one (.eptr spE)), (1000005, .one (.eptr fsE)), (1000006, .one (.eptr acE))] (msY l (p + 1) ({ c with k := 2 }))) zle ?_
   dsimp only at hf
   generalize hcc : ({ c with k := 2 } : Cmd) = c0 at hz ⊢
   clear hcc
   generalize p + 1 = p0 at hf hz ⊢
   unfold zWf
   have h1 := zC5 l ho p0 zFr [73, 78, 84, 79] rfl zUN
   have hf2 := (zAo l [zFr] ⟨p0, 0⟩).2 hf
   have hz2 := (zAo l [zFr] ⟨p0, 0⟩).1
   rcases hA : zAk l ⟨p0, 0⟩ [zFr] with ⟨q6, e1⟩
   rw [hA] at h1 hf2 hz2
   dsimp only at h1 hf2 hz2
   rw [zBt (show zDf l zFr c0 ⟨p0, 0⟩ = (c0, ⟨q6, e1⟩) by unfold zDf; rw [hA])]
   clear hA
   by_cases he : e1 = 0
   rotate_left
   ·rw [(zBE (zQx l true) (zBE (zCv l zDP) (zBE (zCv l zBf) (zBE (zIt (zLB l)) (zCv l zB7))))) _ ⟨q6, e1⟩ he]
    refine zPQ 1 900000 mk2 (fun u => (h1 u).2 he) fun _ => ?_
    exact ⟨fun hh => absurd hh he, fun _ => ⟨rfl, zAv rfl rfl rfl⟩⟩
   subst he
   refine zQ 900000 mk2 (fun u => (h1 u).1 rfl) ?_
   clear h1
   refine zAq (s' := St.of [(1, .one (.ptr 1 0 0)), (900000, .one (.ptr 900000 0 0)) , (1000003, .one (.eptr spE)), (1000005, .one (.eptr fsE)), (1000006, .one (.eptr acE))] (msY l q6 (c0))) zle ?_
   have hz := hz.mono hz2
   have hf := hf2
   clear hf2 hz2
   have h1 := ofT l ho q6 c0 true
   have hf2 := (zDZ l true c0 ⟨q6, 0⟩).2 hf
   have hz2 := (zDZ l true c0 ⟨q6, 0⟩).1
   have hz3 := zKW l true c0 ⟨q6, 0⟩ _ hz
   rcases hA : ofF l true c0 ⟨q6, 0⟩ with ⟨c7, q7, e1⟩
   rw [hA] at h1 hf2 hz2 hz3
   dsimp only at h1 hf2 hz2 hz3
   rw [zBt hA]
   clear hA
   by_cases he : e1 = 0
   rotate_left
   ·rw [(zBE (zCv l zDP) (zBE (zCv l zBf) (zBE (zIt (zLB l)) (zCv l zB7)))) _ ⟨q7, e1⟩ he]
    refine zP 1 [(900000, 900000)] kr [] (h1.2 he) fun _ => ?_
    exact ⟨fun hh => absurd hh he, fun _ => ⟨rfl, zAv rfl rfl rfl⟩⟩
   subst he
   refine zH [(900000, 900000)] kr kr (h1.1 rfl) ?_
   clear h1
   refine zAq (s' := St.of [(1, .one (.ptr 1 0 0)), (900000, .one (.ptr 900000 0 0)) , (1000003, .one (.eptr spE)), (1000005, .one (.eptr fsE)), (1000006, .one (.eptr acE))] (msY l q7 (c7))) zle ?_
   have hz := hz3.mono hz2
   clear hz3
   have hf := hf2
   clear hf2 hz2
   have h1 := zC5 l ho q7 zDP [86, 65, 76, 85, 69, 83] rfl zUL
   have hf2 := (zAo l [zDP] ⟨q7, 0⟩).2 hf
   have hz2 := (zAo l [zDP] ⟨q7, 0⟩).1
   rcases hA : zAk l ⟨q7, 0⟩ [zDP] with ⟨q8, e1⟩
   rw [hA] at h1 hf2 hz2
   dsimp only at h1 hf2 hz2
   rw [zBt (show zDf l zDP c7 ⟨q7, 0⟩ = (c7, ⟨q8, e1⟩) by unfold zDf; rw [hA])]
   clear hA
   by_cases he : e1 = 0
   rotate_left
   ·rw [(zBE (zCv l zBf) (zBE (zIt (zLB l)) (zCv l zB7))) _ ⟨q8, e1⟩ he]
    refine zPQ 1 900000 mk2 (fun u => (h1 u).2 he) fun _ => ?_
    exact ⟨fun hh => absurd hh he, fun _ => ⟨rfl, zAv rfl rfl rfl⟩⟩
   subst he
   refine zQ 900000 mk2 (fun u => (h1 u).1 rfl) ?_
   clear h1
   refine zAq (s' := St.of [(1, .one (.ptr 1 0 0)), (900000, .one (.ptr 900000 0 0)) , (1000003, .one (.eptr spE)), (1000005, .one (.eptr fsE)), (1000006, .one (.eptr acE))] (msY l q8 (c7))) zle ?_
   have hz := hz.mono hz2
   have hf := hf2
   clear hf2 hz2
   have h1 := zHr l ho q8 zBf [40] rfl
   have hf2 := (zAo l [zBf] ⟨q8, 0⟩).2 hf
   have hz2 := (zAo l [zBf] ⟨q8, 0⟩).1
   rcases hA : zAk l ⟨q8, 0⟩ [zBf] with ⟨q9, e1⟩
   rw [hA] at h1 hf2 hz2
   dsimp only at h1 hf2 hz2
   rw [zBt (show zDf l zBf c7 ⟨q8, 0⟩ = (c7, ⟨q9, e1⟩) by unfold zDf; rw [hA])]
   clear hA
   by_cases he : e1 = 0
   rotate_left
   ·rw [(zBE (zIt (zLB l)) (zCv l zB7)) _ ⟨q9, e1⟩ he]
    refine zPQ 1 900000 mk2 (fun u => (h1 u).2 he) fun _ => ?_
    exact ⟨fun hh => absurd hh he, fun _ => ⟨rfl, zAv rfl rfl rfl⟩⟩
   subst he
   refine zQ 900000 mk2 (fun u => (h1 u).1 rfl) ?_
   clear h1
   refine zAq (s' := St.of [(1, .one (.ptr 1 0 0)), (900000, .one (.ptr 900000 0 0)) , (1000003, .one (.eptr spE)), (1000005, .one (.eptr fsE)), (1000006, .one (.eptr acE))] (msY l q9 (c7))) zle ?_
   have hz := hz.mono hz2
   have hf := hf2
   clear hf2 hz2
   have h1 := zSG l ho q9 c7 51 (zIb l) (fun p c hp hz => zTH l ho hL p c hp hz) (zJk l) (zNZ l) hf hz
   have hf2 := (zCD (zJk l) (l.length + 1) c7 ⟨q9, 0⟩).2 hf
   have hz2 := (zCD (zJk l) (l.length + 1) c7 ⟨q9, 0⟩).1
   rcases hA : zBk l (zIb l) (l.length + 1) c7 ⟨q9, 0⟩ with ⟨c10, q10, e1⟩
   rw [hA] at h1 hf2 hz2
   dsimp only at h1 hf2 hz2
   rw [zBt hA]
   clear hA
   by_cases he : e1 = 0
   rotate_left
   ·rw [(zCv l zB7) _ ⟨q10, e1⟩ he]
    refine zP 3 [(900000, 900000)] kr [] (h1.2 he) fun _ => ?_
    exact ⟨fun hh => absurd hh he, fun _ => ⟨rfl, zAv rfl rfl rfl⟩⟩
   subst he
   refine zH [(900000, 900000)] kr kr (h1.1 rfl) ?_
   clear h1
   refine zAq (s' := St.of [(1, .one (.ptr 1 0 0)), (900000, .one (.ptr 900000 0 0)) , (1000003, .one (.eptr spE)), (1000005, .one (.eptr fsE)), (1000006, .one (.eptr acE))] (msY l q10 (c10))) zle ?_
   clear hz
   have hf := hf2
   clear hf2 hz2
   have h1 := zHr l ho q10 zB7 [41] rfl
   have hf2 := (zAo l [zB7] ⟨q10, 0⟩).2 hf
   have hz2 := (zAo l [zB7] ⟨q10, 0⟩).1
   rcases hA : zAk l ⟨q10, 0⟩ [zB7] with ⟨q11, e1⟩
   rw [hA] at h1 hf2 hz2
   dsimp only at h1 hf2 hz2
   rw [show zDf l zB7 c10 ⟨q10, 0⟩ = (c10, ⟨q11, e1⟩) by unfold zDf; rw [hA]]
   clear hA
   by_cases he : e1 = 0
   rotate_left
   ·skip
    refine zPQ 1 900000 mk2 (fun u => (h1 u).2 he) fun _ => ?_
    exact ⟨fun hh => absurd hh he, fun _ => ⟨rfl, zAv rfl rfl rfl⟩⟩
   subst he
   refine zQ 900000 mk2 (fun u => (h1 u).1 rfl) ?_
   clear h1
   repeat' apply zn
   exact ⟨fun _ => ⟨.inl rfl, _, _, _, rfl, zzp, rfl, fun X => zle⟩, fun hh => absurd rfl hh⟩
  exact absurd hc Bool.noConfusion
 | false =>
 rw [if_neg (show ¬ zAc l ⟨p, 0⟩ zGy = true by rw [show zAc l ⟨p, 0⟩ zGy = false from hs]; exact Bool.noConfusion)]
 refine zc (fun hc => ?_) fun hc => ?_
 ·exact absurd hc Bool.noConfusion
 clear hs
 refine zAq (s' := St.of [(1, .one (.ptr 1 0 0)), (900000, .one (.ptr 900000 0 0)) , (1000003, .one (.eptr spE)), (1000005, .one (.eptr fsE)), (1000006, .one (.eptr acE))] (msY l p c)) zle ?_
 have hk := fun u => zCg l ho.1 p u 2 [85,80,68,65,84,69]
 refine zQ 900000 mk2 hk ?_
 clear hk
 cases hs : zAc l ⟨p, 0⟩ ⟨2, [85, 80, 68, 65, 84, 69], 0, 0⟩ with
 | true =>
  rw [if_pos (show zAc l ⟨p, 0⟩ zKx = true from hs)]
  have hf := (zAH hs).2 hp
  have hz : Szs { c with k := 3 } (p + 1) := ⟨Nat.le_succ_of_le hz.cs, Nat.le_succ_of_le hz.ro, Nat.le_succ_of_le hz.ss, Nat.le_succ_of_le hz.is, Nat.le_succ_of_le hz.so⟩
  refine zc (fun hc => ?_) fun hc => ?_
  ·repeat' first | refine zx ?_ | apply zn
   refine zAq (s' := St.of [(1, .one (.ptr 1 0 0)), (900000, .one (.ptr 900000 0 0)) , (1000003, .one (.eptr spE)), (1000005, .one (.eptr fsE)), (1000006, .one (.eptr acE))] (msY l (p + 1) ({ c with k := 3 }))) zle ?_
   dsimp only at hf
   generalize hcc : ({ c with k := 3 } : Cmd) = c0 at hz ⊢
   clear hcc
   generalize p + 1 = p0 at hf hz ⊢
   unfold zVC
   have h1 := ofT l ho p0 c0 true
   have hf2 := (zDZ l true c0 ⟨p0, 0⟩).2 hf
   have hz2 := (zDZ l true c0 ⟨p0, 0⟩).1
   have hz3 := zKW l true c0 ⟨p0, 0⟩ _ hz
   rcases hA : ofF l true c0 ⟨p0, 0⟩ with ⟨c12, q12, e1⟩
   rw [hA] at h1 hf2 hz2 hz3
   dsimp only at h1 hf2 hz2 hz3
   rw [zBt hA]
   clear hA
   by_cases he : e1 = 0
   rotate_left
   ·rw [(zBE (zCv l zEY) (zBE (zIt (zRv l)) (zJi l))) _ ⟨q12, e1⟩ he]
    refine zP 1 [(900000, 900000)] kr [] (h1.2 he) fun _ => ?_
    exact ⟨fun hh => absurd hh he, fun _ => ⟨rfl, zAv rfl rfl rfl⟩⟩
   subst he
   refine zH [(900000, 900000)] kr kr (h1.1 rfl) ?_
   clear h1
   refine zAq (s' := St.of [(1, .one (.ptr 1 0 0)), (900000, .one (.ptr 900000 0 0)) , (1000003, .one (.eptr spE)), (1000005, .one (.eptr fsE)), (1000006, .one (.eptr acE))] (msY l q12 (c12))) zle ?_
   have hz := hz3.mono hz2
   clear hz3
   have hf := hf2
   clear hf2 hz2
   have h1 := zC5 l ho q12 zEY [83, 69, 84] rfl zUM
   have hf2 := (zAo l [zEY] ⟨q12, 0⟩).2 hf
   have hz2 := (zAo l [zEY] ⟨q12, 0⟩).1
   rcases hA : zAk l ⟨q12, 0⟩ [zEY] with ⟨q13, e1⟩
   rw [hA] at h1 hf2 hz2
   dsimp only at h1 hf2 hz2
   rw [zBt (show zDf l zEY c12 ⟨q12, 0⟩ = (c12, ⟨q13, e1⟩) by unfold zDf; rw [hA])]
   clear hA
   by_cases he : e1 = 0
   rotate_left
   ·rw [(zBE (zIt (zRv l)) (zJi l)) _ ⟨q13, e1⟩ he]
    refine zPQ 1 900000 mk2 (fun u => (h1 u).2 he) fun _ => ?_
    exact ⟨fun hh => absurd hh he, fun _ => ⟨rfl, zAv rfl rfl rfl⟩⟩
   subst he
   refine zQ 900000 mk2 (fun u => (h1 u).1 rfl) ?_
   clear h1
   refine zAq (s' := St.of [(1, .one (.ptr 1 0 0)), (900000, .one (.ptr 900000 0 0)) , (1000003, .one (.eptr spE)), (1000005, .one (.eptr fsE)), (1000006, .one (.eptr acE))] (msY l q13 (c12))) zle ?_
   have hz := hz.mono hz2
   have hf := hf2
   clear hf2 hz2
   have h1 := zV7 l ho q13 c12 (zHG l) (fun p c hp hz => zXb l ho hL p c hp hz) (zHF l) (zOc l) hf hz
   have hf2 := (zCD (zHF l) (l.length + 1) c12 ⟨q13, 0⟩).2 hf
   have hz2 := (zCD (zHF l) (l.length + 1) c12 ⟨q13, 0⟩).1
   rcases hA : zBk l (zHG l) (l.length + 1) c12 ⟨q13, 0⟩ with ⟨c14, q14, e1⟩
   rw [hA] at h1 hf2 hz2
   dsimp only at h1 hf2 hz2
   rw [zBt hA]
   clear hA
   by_cases he : e1 = 0
   rotate_left
   ·rw [(zJi l) _ ⟨q14, e1⟩ he]
    refine zP 2 [(900000, 900000), (900006, 1)] kr [] (h1.2 he) fun _ => ?_
    exact ⟨fun hh => absurd hh he, fun _ => ⟨rfl, zAv rfl rfl rfl⟩⟩
   subst he
   refine zH [(900000, 900000), (900006, 1)] kr kr (h1.1 rfl) ?_
   clear h1
   refine zAq (s' := St.of [(1, .one (.ptr 1 0 0)), (900000, .one (.ptr 900000 0 0)) , (1000003, .one (.eptr spE)), (1000005, .one (.eptr fsE)), (1000006, .one (.eptr acE))] (msY l q14 (c14))) zle ?_
   clear hz
   have hf := hf2
   clear hf2 hz2
   have h1 := fun u => zNW l ho q14 u hf
   have hf2 := (zH9 l ⟨q14, 0⟩).2 hf
   have hz2 := (zH9 l ⟨q14, 0⟩).1
   rcases hA : whF l ⟨q14, 0⟩ with ⟨x15, q15, e1⟩
   rw [hA] at h1 hf2 hz2
   dsimp only at h1 hf2 hz2
   rw [show zMS l c14 ⟨q14, 0⟩ = ({ c14 with wh := x15 }, ⟨q15, e1⟩) by unfold zMS; rw [hA]]
   clear hA
   by_cases he : e1 = 0
   rotate_left
   ·skip
    repeat' apply zn
    refine zC6 (T := tab) tOk hnt zAO [1] 0 2 (zA2 (T := tab) rfl ?_ (.nil _)) (zA2 (T := tab) rfl ?_ (.nil _)) rfl (zA8 900000 mk2 [] rfl rfl rfl (fun u => (h1 u).2 he) rfl rfl (fun _ => rfl) rfl (fun _ _ _ => zg) rfl rfl rfl (fun s' ht hm x => ?_)) (zA8 900000 mk2 [] rfl rfl rfl (fun u => (h1 u).2 he) rfl rfl (fun _ => rfl) rfl (fun _ _ _ => zg) rfl rfl rfl (fun s' ht hm x => ?_)) (by decide +kernel) (by decide +kernel)
    ·exact zzt
    ·exact zzt
    ·exact ⟨fun hh => absurd hh he, fun _ => ⟨rfl, zAv (ht 900000 (by decide)).symm rfl rfl⟩⟩
    ·exact ⟨fun hh => absurd hh he, fun _ => ⟨rfl, zAv (ht 900000 (by decide)).symm rfl rfl⟩⟩
   subst he
   simp only [zAp x15] at h1
   repeat' apply zn
   refine zAK (T := tab) tOk hnt zAO (zA2 (T := tab) rfl ?_ (zDM 900000 mk2 rfl rfl rfl (fun u => (h1 u).1 trivial) rfl rfl (fun _ => rfl) (fun _ => rfl) rfl (fun _ _ _ => zg) rfl rfl rfl rfl (fun _ => rfl) (zA2 (T := tab) rfl ?_ (.nil _)))) (by first | decide +kernel | kernel_rfl) ?_
   ·exact zzt
   ·exact zzt
   clear h1
   repeat' apply zn
   exact ⟨fun _ => ⟨.inl rfl, _, _, _, rfl, zzp, rfl, fun X => zle⟩, fun hh => absurd rfl hh⟩
  exact absurd hc Bool.noConfusion
 | false =>
 rw [if_neg (show ¬ zAc l ⟨p, 0⟩ zKx = true by rw [show zAc l ⟨p, 0⟩ zKx = false from hs]; exact Bool.noConfusion)]
 refine zc (fun hc => ?_) fun hc => ?_
 ·exact absurd hc Bool.noConfusion
 clear hs
 refine zAq (s' := St.of [(1, .one (.ptr 1 0 0)), (900000, .one (.ptr 900000 0 0)) , (1000003, .one (.eptr spE)), (1000005, .one (.eptr fsE)), (1000006, .one (.eptr acE))] (msY l p c)) zle ?_
 have hk := fun u => zCg l ho.1 p u 2 [68,69,76,69,84,69]
 refine zQ 900000 mk2 hk ?_
 clear hk
 cases hs : zAc l ⟨p, 0⟩ ⟨2, [68, 69, 76, 69, 84, 69], 0, 0⟩ with
 | true =>
  rw [if_pos (show zAc l ⟨p, 0⟩ zKE = true from hs)]
  have hf := (zAH hs).2 hp
  have hz : Szs { c with k := 4 } (p + 1) := ⟨Nat.le_succ_of_le hz.cs, Nat.le_succ_of_le hz.ro, Nat.le_succ_of_le hz.ss, Nat.le_succ_of_le hz.is, Nat.le_succ_of_le hz.so⟩
  refine zc (fun hc => ?_) fun hc => ?_
  ·repeat' first | refine zx ?_ | apply zn
   refine zAq (s' := St.of [(1, .one (.ptr 1 0 0)), (900000, .one (.ptr 900000 0 0)) , (1000003, .one (.eptr spE)), (1000005, .one (.eptr fsE)), (1000006, .one (.eptr acE))] (msY l (p + 1) ({ c with k := 4 }))) zle ?_
   dsimp only at hf
   generalize hcc : ({ c with k := 4 } : Cmd) = c0 at hz ⊢
   clear hcc
   generalize p + 1 = p0 at hf hz ⊢
   unfold zWr
   have h1 := zC5 l ho p0 zB3 [70, 82, 79, 77] rfl zVs
   have hf2 := (zAo l [zB3] ⟨p0, 0⟩).2 hf
   have hz2 := (zAo l [zB3] ⟨p0, 0⟩).1
   rcases hA : zAk l ⟨p0, 0⟩ [zB3] with ⟨q16, e1⟩
   rw [hA] at h1 hf2 hz2
   dsimp only at h1 hf2 hz2
   rw [zBt (show zDf l zB3 c0 ⟨p0, 0⟩ = (c0, ⟨q16, e1⟩) by unfold zDf; rw [hA])]
   clear hA
   by_cases he : e1 = 0
   rotate_left
   ·rw [(zBE (zQx l true) (zJi l)) _ ⟨q16, e1⟩ he]
    refine zPQ 1 900000 mk2 (fun u => (h1 u).2 he) fun _ => ?_
    exact ⟨fun hh => absurd hh he, fun _ => ⟨rfl, zAv rfl rfl rfl⟩⟩
   subst he
   refine zQ 900000 mk2 (fun u => (h1 u).1 rfl) ?_
   clear h1
   refine zAq (s' := St.of [(1, .one (.ptr 1 0 0)), (900000, .one (.ptr 900000 0 0)) , (1000003, .one (.eptr spE)), (1000005, .one (.eptr fsE)), (1000006, .one (.eptr acE))] (msY l q16 (c0))) zle ?_
   have hz := hz.mono hz2
   have hf := hf2
   clear hf2 hz2
   have h1 := ofT l ho q16 c0 true
   have hf2 := (zDZ l true c0 ⟨q16, 0⟩).2 hf
   have hz2 := (zDZ l true c0 ⟨q16, 0⟩).1
   have hz3 := zKW l true c0 ⟨q16, 0⟩ _ hz
   rcases hA : ofF l true c0 ⟨q16, 0⟩ with ⟨c17, q17, e1⟩
   rw [hA] at h1 hf2 hz2 hz3
   dsimp only at h1 hf2 hz2 hz3
   rw [zBt hA]
   clear hA
   by_cases he : e1 = 0
   rotate_left
   ·rw [(zJi l) _ ⟨q17, e1⟩ he]
    refine zP 1 [(900000, 900000)] kr [] (h1.2 he) fun _ => ?_
    exact ⟨fun hh => absurd hh he, fun _ => ⟨rfl, zAv rfl rfl rfl⟩⟩
   subst he
   refine zH [(900000, 900000)] kr kr (h1.1 rfl) ?_
   clear h1
   refine zAq (s' := St.of [(1, .one (.ptr 1 0 0)), (900000, .one (.ptr 900000 0 0)) , (1000003, .one (.eptr spE)), (1000005, .one (.eptr fsE)), (1000006, .one (.eptr acE))] (msY l q17 (c17))) zle ?_
   have hz := hz3.mono hz2
   clear hz3
   have hf := hf2
   clear hf2 hz2
   have h1 := fun u => zNW l ho q17 u hf
   have hf2 := (zH9 l ⟨q17, 0⟩).2 hf
   have hz2 := (zH9 l ⟨q17, 0⟩).1
   rcases hA : whF l ⟨q17, 0⟩ with ⟨x18, q18, e1⟩
   rw [hA] at h1 hf2 hz2
   dsimp only at h1 hf2 hz2
   rw [show zMS l c17 ⟨q17, 0⟩ = ({ c17 with wh := x18 }, ⟨q18, e1⟩) by unfold zMS; rw [hA]]
   clear hA
   by_cases he : e1 = 0
   rotate_left
   ·skip
    repeat' apply zn
    refine zC6 (T := tab) tOk hnt zAO [1] 0 2 (zA2 (T := tab) rfl ?_ (.nil _)) (zA2 (T := tab) rfl ?_ (.nil _)) rfl (zA8 900000 mk2 [] rfl rfl rfl (fun u => (h1 u).2 he) rfl rfl (fun _ => rfl) rfl (fun _ _ _ => zg) rfl rfl rfl (fun s' ht hm x => ?_)) (zA8 900000 mk2 [] rfl rfl rfl (fun u => (h1 u).2 he) rfl rfl (fun _ => rfl) rfl (fun _ _ _ => zg) rfl rfl rfl (fun s' ht hm x => ?_)) (by decide +kernel) (by decide +kernel)
    ·exact zzt
    ·exact zzt
    ·exact ⟨fun hh => absurd hh he, fun _ => ⟨rfl, zAv (ht 900000 (by decide)).symm rfl rfl⟩⟩
    ·exact ⟨fun hh => absurd hh he, fun _ => ⟨rfl, zAv (ht 900000 (by decide)).symm rfl rfl⟩⟩
   subst he
   simp only [zAp x18] at h1
   repeat' apply zn
   refine zAK (T := tab) tOk hnt zAO (zA2 (T := tab) rfl ?_ (zDM 900000 mk2 rfl rfl rfl (fun u => (h1 u).1 trivial) rfl rfl (fun _ => rfl) (fun _ => rfl) rfl (fun _ _ _ => zg) rfl rfl rfl rfl (fun _ => rfl) (zA2 (T := tab) rfl ?_ (.nil _)))) (by first | decide +kernel | kernel_rfl) ?_
   ·exact zzt
   ·exact zzt
   clear h1
   repeat' apply zn
   exact ⟨fun _ => ⟨.inl rfl, _, _, _, rfl, zzp, rfl, fun X => zle⟩, fun hh => absurd rfl hh⟩
  exact absurd hc Bool.noConfusion
 | false =>
 rw [if_neg (show ¬ zAc l ⟨p, 0⟩ zKE = true by rw [show zAc l ⟨p, 0⟩ zKE = false from hs]; exact Bool.noConfusion)]
 refine zc (fun hc => ?_) fun hc => ?_
 ·exact absurd hc Bool.noConfusion
 clear hs
 refine zAq (s' := St.of [(1, .one (.ptr 1 0 0)), (900000, .one (.ptr 900000 0 0)) , (1000003, .one (.eptr spE)), (1000005, .one (.eptr fsE)), (1000006, .one (.eptr acE))] (msY l p c)) zle ?_
 have hk := fun u => zCg l ho.1 p u 2 [83,69,76,69,67,84]
 refine zQ 900000 mk2 hk ?_
 clear hk
 cases hs : zAc l ⟨p, 0⟩ ⟨2, [83, 69, 76, 69, 67, 84], 0, 0⟩ with
 | true =>
  rw [if_pos (show zAc l ⟨p, 0⟩ zKy = true from hs)]
  have hf := (zAH hs).2 hp
  have hz : Szs { c with k := 5 } (p + 1) := ⟨Nat.le_succ_of_le hz.cs, Nat.le_succ_of_le hz.ro, Nat.le_succ_of_le hz.ss, Nat.le_succ_of_le hz.is, Nat.le_succ_of_le hz.so⟩
  refine zc (fun hc => ?_) fun hc => ?_
  ·repeat' first | refine zx ?_ | apply zn
   refine zAq (s' := St.of [(1, .one (.ptr 1 0 0)), (900000, .one (.ptr 900000 0 0)) , (1000003, .one (.eptr spE)), (1000005, .one (.eptr fsE)), (1000006, .one (.eptr acE))] (msY l (p + 1) ({ c with k := 5 }))) zle ?_
   dsimp only at hf
   generalize hcc : ({ c with k := 5 } : Cmd) = c0 at hz ⊢
   clear hcc
   generalize p + 1 = p0 at hf hz ⊢
   have h1 := zT3 l ho hL p0 c0 hf hz
   rcases hA : zNd l c0 ⟨p0, 0⟩ with ⟨c1, p1, e1⟩
   rw [hA] at h1
   dsimp only at h1 ⊢
   by_cases he : e1 = 0
   rotate_left
   ·refine zP 1 [(900000, 900000)] kr [] (h1.2 he) fun _ => ?_
    exact ⟨fun hh => absurd hh he, fun _ => ⟨rfl, zAv rfl rfl rfl⟩⟩
   subst he
   refine zH [(900000, 900000)] kr kr (h1.1 rfl) ?_
   repeat' apply zn
   exact ⟨fun _ => ⟨.inl rfl, _, _, _, rfl, zzp, rfl, fun X => zle⟩, fun hh => absurd rfl hh⟩
  exact absurd hc Bool.noConfusion
 | false =>
 rw [if_neg (show ¬ zAc l ⟨p, 0⟩ zKy = true by rw [show zAc l ⟨p, 0⟩ zKy = false from hs]; exact Bool.noConfusion)]
 refine zc (fun hc => ?_) fun hc => ?_
 ·exact absurd hc Bool.noConfusion
 clear hs
 refine zAq (s' := St.of [(1, .one (.ptr 1 0 0)), (900000, .one (.ptr 900000 0 0)) , (1000003, .one (.eptr spE)), (1000005, .one (.eptr fsE)), (1000006, .one (.eptr acE))] (msY l p c)) zle ?_
 have h1 := zSq l ho p c
 rcases hA : zLW l c ⟨p, 0⟩ with ⟨c1, p1, e1⟩
 rw [hA] at h1
 dsimp only at h1 ⊢
 by_cases he : e1 = 0
 rotate_left
 ·refine zP 1 [(900000, 900000)] kr [] (h1.2 he) fun _ => ?_
  exact ⟨fun hh => absurd hh he, fun _ => ⟨rfl, zAv rfl rfl rfl⟩⟩
 subst he
 refine zH [(900000, 900000)] kr kr (h1.1 rfl) ?_
 repeat' apply zn
 exact ⟨fun _ => ⟨.inl rfl, _, _, _, rfl, zzp, rfl, fun X => zle⟩, fun hh => absurd rfl hh⟩
theorem zRo : Tryz.prog.underlying 20 = some (.interface #[]) := by kernel_rfl
def msE (c4 : Blk) (a b : Int) : List (Nat × Blk) := [(900000, c4), (900001, ⟨0, .box (.es [eI a]), 0⟩), (900002, ⟨0, .box (.es [eI b]), 0⟩)]
abbrev arE : List D := [.one (.ptr 900000 0 0), .one (.ptr 900001 0 0), .one (.ptr 900002 0 0)]
abbrev zeE : Blk := ⟨0, .box (.ds [.e (eI 0), .e (eI 0), .e (eT []), .e (eI 0), .nil, .nil, .nil, .e (eI 0), .e (eI 0), .e (eI 0), .e (eQ 0), .e (eT []), .e (eT []), .nil, .nil, .e (eI 0), .e (eI 0), .e (eI 0), .e (eQ 0), .e (eT []), .e (eT []), .nil, .e (eT []), .nil, .e (eBl false), .e (eI 0), .e (eI 0), .e (eI 0), .e (eBl false)]), 0⟩
def zFM : Cmd := ⟨0, 0, [], 0, [], [], [], ex0, zT7, 0, 0, false⟩
theorem zWg (c : Cmd) (a b : Int) : zTu Tryz.prog 15 (msE ⟨0, .box (.es (zBC c)), 0⟩ a b) arE .returning .returning (msE ⟨0, .box (.es (zBC c)), 0⟩ a b) := by
 refine zEo (u := .returning) (t := 6) (t2 := 3) Tryz.func15 rfl rfl rfl rfl rfl rfl rfl rfl rfl rfl (by kernel_rfl) (by simp [Tryz.ntmps15]) rfl (by rfl) rfl ?_
 intro X hX
 have hnt : X.nt = 22 := hX
 repeat' apply zn
 refine zAa (.cons (zEe tOk hnt rfl trivial) (.cons (zGh (v := .nilIface) rfl rfl rfl (by rw [hnt]; rfl) rfl rfl rfl zRo) (.nil _))) ?_
 refine zc (fun hc => ?_) fun hc => ?_
 ·exact absurd hc Bool.noConfusion
 repeat' apply zn
 exact ⟨.inl rfl, fun X => zle⟩
theorem zRw (s : Spot) : zTu Tryz.prog 15 (msE zeE 0 0) arE (.panicking (chT s)) (zFs (.panicking (chT s))).2 (msE zeE (s.p : Int) s.e) := by
 refine zEo (u := .panicking (chT s)) (t := 6) (t2 := 3) Tryz.func15 rfl rfl rfl rfl rfl rfl rfl rfl rfl rfl (by kernel_rfl) (by simp [Tryz.ntmps15]) rfl rfl rfl ?_
 intro X hX
 have hnt : X.nt = 22 := hX
 repeat' apply zn
 refine zAa (.cons (zEe tOk hnt rfl trivial) (.cons (zGh (v := .iface 60 (.agg #[.int .i64 (s.p : Int), .int .i64 s.e])) rfl rfl rfl (by rw [hnt]; rfl) rfl rfl rfl zRo) (.nil _))) ?_
 refine zc (fun hc => ?_) fun hc => ?_
 ·repeat' first | refine zx ?_ | fail
  refine zc (fun hc => ?_) fun hc => ?_
  ·exact absurd hc Bool.noConfusion
  repeat' first | refine zx ?_ | apply zn
  exact ⟨.inl rfl, fun X => zle⟩
 exact absurd hc Bool.noConfusion
def zTm (l : List Tok) (s : Spot) : Spot := if s.e = 0 /\ s.p ≠ l.length then ⟨s.p, 3⟩ else s
def zEK (l : List Tok) : Cmd × Int × Int :=
 if (zTm l (zHm l zFM ⟨0, 0⟩).2).e = 0 then ((zHm l zFM ⟨0, 0⟩).1, 0, 0) else (zFM, ((zTm l (zHm l zFM ⟨0, 0⟩).2).p : Int), (zTm l (zHm l zFM ⟨0, 0⟩).2).e)
abbrev zV1 (r : Cmd × Int × Int) : D := .tup [(true, .es (zBC r.1)), (false, .es [eI r.2.1]), (false, .es [eI r.2.2])]
def zXl (l : List Tok) : List (Nat × Blk) := [(2, ⟨0, .box (.ds [.e (eI 0), .e (eI 0), .e (eT []), .e (eI 0), .nil, .nil, .nil, .e (eI 0), .e (eI 0), .e (eI 0), .e (eQ 0), .e (eT []), .e (eT []), .nil, .nil, .e (eI 0), .e (eI 0), .e (eI 0), .e (eQ 0), .e (eT []), .e (eT []), .nil, .e (eT []), .nil, .e (eBl false), .e (eI 0), .e (eI 0), .e (eI 0), .e (eBl false)]), 0⟩), (3, ⟨0, .box (.es [eI 0]), 0⟩), (4, ⟨0, .box (.es [eI 0]), 0⟩), (9, ⟨0, .box (.ds [.e (zFU l), .e (eI 0), .e (eI 0), .e (eI 0), .e (eT []), .e (eI 0), .own 11 0, .own 12 0, .own 13 0, .e (eI 0), .e (eI 0), .e (eI 0), .e (eQ 0), .e (eT []), .e (eT []), .e (.sl []), .own 14 0, .e (eI 0), .e (eI 0), .e (eI 0), .e (eQ 0), .e (eT []), .e (eT []), .e (.sl []), .e (eT []), .own 15 0, .e (eBl false), .e (eI 0), .e (eI 0), .e (eI 0), .e (eBl false)]), 0⟩), (11, ⟨0, .row 3 [], 0⟩), (12, ⟨0, .row 4 [], 0⟩), (13, ⟨0, .row 8 [], 0⟩), (14, ⟨0, .row 8 [], 0⟩), (15, ⟨0, .row 2 [], 0⟩)]
theorem zVL (l : List Tok) (ho : zAW l) (hL : l.length <= 100) (hfw : (zHm l zFM ⟨0, 0⟩).2.p <= l.length) : FnG Tryz.prog 7 gY [.one (.e (zFU l))] (zV1 (zEK l)) := by
 have h0 : (l.map zBO).length = l.length := List.length_map ..
 refine zHV (T := tab) tOk [_, _] Tryz.func7 rfl (by kernel_rfl) (by simp [Tryz.ntmps7]) ?_
 intro X hX
 have hnt : X.nt = 29 := hX
 clear hX
 unfold zNO
 refine zx ?_
 unfold zKG zNO
 refine zx ?_
 unfold zKG zNO
 refine ⟨1, _, _, _, _, 15, [(2, 0, 0), (3, 0, 0), (4, 0, 0)], zzx hnt rfl (by exact zzt) (Lex.nil _), rfl, rfl, rfl, rfl, rfl, rfl, rfl, rfl, rfl, rfl, ?_⟩
 intro X' hX'
 replace hnt : X'.nt = 29 := hX'.trans hnt
 have h1 := zQ2 l ho hL 0 zFM (Nat.zero_le _) ⟨Nat.le_refl _, Nat.le_refl _, Nat.le_refl _, Nat.le_refl _, Nat.le_refl _⟩
 generalize hw : zEK l = w
 unfold zEK at hw
 generalize zHm l zFM ⟨0, 0⟩ = A at h1 hfw hw
 obtain ⟨c1, p1, e1⟩ := A
 dsimp only at h1 hfw hw
 refine zAq (s' := St.of [(0, .one (.e (zFU l))), (2, .one (.ptr 2 0 0)), (3, .one (.ptr 3 0 0)), (4, .one (.ptr 4 0 0)), (5, .one (.ptr 9 0 0)), (900000, .one (.ptr 2 0 0)), (900001, .one (.ptr 3 0 0)), (900002, .one (.ptr 4 0 0)), (1000003, .one (.eptr spE)), (1000005, .one (.eptr fsE)), (1000006, .one (.eptr acE))] (zXl l)) (zAh (ad := [11, 12, 13, 14, 15]) zzi zm) ?_
 have hend : ∀ q e, e ≠ 0 -> zTm l ⟨p1, e1⟩ = ⟨q, e⟩ -> w = (zFM, (q : Int), e) := fun q e he h => by
  rw [h, if_neg he] at hw
  exact hw.symm
 by_cases he : e1 = 0
 rotate_left
 ·rw [hend p1 e1 he (if_neg fun h => he h.1)]
  refine zP 1 [(900000, 9)] [(900001, 11), (900002, 12), (900003, 13), (900004, 14), (900005, 15)] [] (h1.2 he) fun _ => ?_
  exact ⟨.inr (.inr ⟨_, rfl⟩), _, msE zeE 0 0, msE zeE (p1 : Int) e1, arE, [(900000, 2), (900001, 3), (900002, 4)], [], zRw ⟨p1, e1⟩, rfl, (by repeat' first | exact .nil | refine .lent rfl rfl rfl ?_), rfl, ⟨rfl, rfl, rfl, trivial⟩, ⟨rfl, rfl, rfl, trivial⟩, _, _, rfl, (by (repeat' first | exact trivial | exact Nat.le_of_ble_eq_true rfl | exact rfl | apply And.intro)), rfl⟩
 subst he
 refine zH [(900000, 9)] [(900001, 11), (900002, 12), (900003, 13), (900004, 14), (900005, 15)] [(900001, 11), (900002, 12), (900003, 13), (900004, 14), (900005, 15)] (h1.1 rfl) ?_
 clear h1
 refine zAq (zDK 9 rfl rfl rfl) ?_
 refine zAq (s' := St.of [(0, .one (.e (zFU l))), (2, .one (.ptr 2 0 0)), (3, .one (.ptr 3 0 0)), (4, .one (.ptr 4 0 0)), (5, .one (.ptr 9 0 0)), (900000, .one (.ptr 2 0 0)), (900001, .one (.ptr 3 0 0)), (900002, .one (.ptr 4 0 0)), (1000003, .one (.eptr spE)), (1000005, .one (.eptr fsE)), (1000006, .one (.eptr acE))] [(2, ⟨0, .box (.ds [.e (eI 0), .e (eI 0), .e (eT []), .e (eI 0), .nil, .nil, .nil, .e (eI 0), .e (eI 0), .e (eI 0), .e (eQ 0), .e (eT []), .e (eT []), .nil, .nil, .e (eI 0), .e (eI 0), .e (eI 0), .e (eQ 0), .e (eT []), .e (eT []), .nil, .e (eT []), .nil, .e (eBl false), .e (eI 0), .e (eI 0), .e (eI 0), .e (eBl false)]), 0⟩), (3, ⟨0, .box (.es [eI 0]), 0⟩), (4, ⟨0, .box (.es [eI 0]), 0⟩), (9, ⟨0, .box (.es (zFU l :: eI (p1 : Int) :: zBC c1)), 0⟩)]) zle ?_
 repeat' first | refine zx ?_ | fail
 refine zc (fun hc => ?_) fun hc => ?_
 ·simp only [zz] at hc
  (try simp only [h0] at hc)
  (try simp only [zz] at hc)
  have hc : ¬ (p1 : Int) = l.length := hc
  have hne : p1 ≠ l.length := by omega
  have hb : zBQ l ⟨p1, 0⟩ = ⟨p1, 3⟩ := by
   unfold zBQ
   rw [if_pos rfl, if_neg (by show ¬ l.length <= p1; omega)]
  rw [hend p1 3 (by decide) (if_pos ⟨rfl, hne⟩)]
  refine zPQ 3 9 mk2 (fun u => (zJ8 l p1 u).2 id) fun _ => ?_
  rw [hb]
  exact ⟨.inr (.inr ⟨_, rfl⟩), _, msE zeE 0 0, msE zeE (p1 : Int) 3, arE, [(900000, 2), (900001, 3), (900002, 4)], [], zRw ⟨p1, 3⟩, rfl, (by repeat' first | exact .nil | refine .lent rfl rfl rfl ?_), rfl, ⟨rfl, rfl, rfl, trivial⟩, ⟨rfl, rfl, rfl, trivial⟩, _, _, rfl, (by (repeat' first | exact trivial | exact Nat.le_of_ble_eq_true rfl | exact rfl | apply And.intro)), rfl⟩
 simp only [zz] at hc
 (try simp only [h0] at hc)
 (try simp only [zz] at hc)
 have hc : (p1 : Int) = l.length := hc
 have heq : p1 = l.length := by omega
 have hw2 : w = (c1, 0, 0) := by
  rw [show zTm l ⟨p1, 0⟩ = ⟨p1, 0⟩ from if_neg fun h => h.2 heq, if_pos rfl] at hw
  exact hw.symm
 rw [hw2]
 refine zx ?_
 exact zAb ⟨.inr (.inl rfl), _, msE ⟨0, .box (.es (zBC c1)), 0⟩ 0 0, msE ⟨0, .box (.es (zBC c1)), 0⟩ 0 0, arE, [(900000, 2), (900001, 3), (900002, 4)], [], zWg c1 0 0, rfl, (by repeat' first | exact .nil | refine .lent rfl rfl rfl ?_), rfl, ⟨rfl, rfl, rfl, trivial⟩, ⟨rfl, rfl, rfl, trivial⟩, _, _, rfl, (by (repeat' first | exact trivial | exact Nat.le_of_ble_eq_true rfl | exact rfl | apply And.intro)), rfl⟩
theorem zLO {l : List Tok} {g : Stp} (hz : SzD g) : ∀ (n m : Nat) (c : Cmd) (s : Spot), Szs c m -> Szs (zBq l g n c s).1 (m + n)
 | 0, m, c, s, h => by
  unfold zBq
  split
  ·exact h
  ·exact h
 | n + 1, m, c, s, h => by
  unfold zBq
  split
  ·rw [zBg]
   exact (zLO hz n (m + 1) _ _ (hz c _ _ h)).mono (by omega)
  ·exact h.mono (by omega)
theorem zMe {l : List Tok} {g : Stp} (hz : SzD g) {m : Nat} {c : Cmd} (h : Szs c m) (s : Spot) : Szs (zBk l g (l.length + 1) c s).1 (m + 1 + l.length) := by
 rw [zBg]
 exact zLO hz _ _ _ _ (hz c s _ h)
structure Ck (c : Cmd) : Prop where
 tb : c.tb.length <= maxLen
 cs : ∀ k ∈ c.cs, k.n.length <= maxLen
 ro : ∀ v ∈ c.ro, v.ok
 ss : ∀ s ∈ c.ss, s.c.length <= maxLen /\ zDe s.x
 wh : zDe c.wh
 qw : zDe c.q.w
 qi : ∀ t ∈ c.q.is, zDe t.x
 g : c.q.g.length <= maxLen
def CkP (g : Stp) : Prop := ∀ c s, Ck c -> Ck (g c s).1
theorem zEf {α : Type} {K : α -> Prop} {l : List α} {x : α} (h : ∀ y ∈ l, K y) (hx : K x) : ∀ y ∈ l ++ [x], K y := fun y hy => by
 rcases List.mem_append.1 hy with hy | hy
 ·exact h y hy
 ·rw [List.mem_singleton.1 hy]; exact hx
theorem zFx {l : List Tok} {g : Stp} (hg : CkP g) : ∀ n, CkP (zBk l g n)
 | 0, c, s, h => h
 | n + 1, c, s, h => by
  rw [zBg]
  unfold zBq
  split
  ·exact zFx hg n _ _ (hg c s h)
  ·exact hg c s h
theorem zGH {l : List Tok} (hl : zCH l) (s : Spot) {k : Int} (hk : k ≠ 0) : (zBl l s k).1.t.length <= maxLen /\ (-9223372036854775808 <= (zBl l s k).1.i /\ (zBl l s k).1.i <= 9223372036854775807) := by
 unfold zBl
 by_cases h : zAU l s = k
 ·have hlt := (zCj (l := l) (s := s) (by rw [h]; exact hk)).2.1
  rw [if_pos h]
  exact ⟨hl.1.at hlt, hl.at hlt⟩
 ·rw [if_neg h]
  exact ⟨Nat.zero_le _, show (-9223372036854775808 : Int) <= 0 by decide, show (0 : Int) <= 9223372036854775807 by decide⟩
theorem zPV {l : List Tok} (hl : zCH l) (s : Spot) : zDe (xpF l s).1 := zMD hl _ _ _
theorem zTE {l : List Tok} (hl : zCH l) (s : Spot) : zDe (whF l s).1 := by
 unfold whF
 split
 ·exact zPV hl _
 ·exact zHN
theorem zSA (i : Int) : -9223372036854775808 <= zSB i /\ zSB i <= 9223372036854775807 := by
 unfold zSB IntKind.wrap
 simp [IntKind.signed, IntKind.bits]
 omega
theorem vok {k i : Int} {b : BitVec 64} {t : Byt} (h1 : 0 <= k /\ k <= 20) (h2 : -9223372036854775808 <= i /\ i <= 9223372036854775807) : Val.ok ⟨k, i, b, t⟩ := ⟨⟨by show (_ : Int) <= k; omega, by show k <= _; omega⟩, h2⟩
theorem zUv {l : List Tok} (hl : zCH l) (s : Spot) : (zEh l s).1.ok := by
 unfold zEh
 split
 ·exact vok ⟨by decide, by decide⟩ (zSA _)
 split
 ·exact zSS.1
 split
 ·exact vok ⟨by decide, by decide⟩ ⟨by decide, by decide⟩
 split
 ·exact vok ⟨by decide, by decide⟩ ⟨by decide, by decide⟩
 split
 ·rename_i h
  have hlt := (zCj (l := l) (s := s) (by rw [h]; decide)).2.1
  exact vok ⟨by decide, by decide⟩ (hl.at hlt)
 split
 ·exact vok ⟨by decide, by decide⟩ ⟨by decide, by decide⟩
 split
 ·exact vok ⟨by decide, by decide⟩ ⟨by decide, by decide⟩
 ·exact zSS.1
section
variable {l : List Tok} (hl : zCH l)
include hl
theorem zU3 : CkP (zG8 l) := fun c s h => ⟨h.tb, zEf h.cs (zGH hl s zFp).1, h.ro, h.ss, h.wh, h.qw, h.qi, h.g⟩
theorem zTI : CkP (zIb l) := fun c s h => ⟨h.tb, h.cs, zEf h.ro (zUv hl s), h.ss, h.wh, h.qw, h.qi, h.g⟩
theorem zTW : CkP (zHG l) := fun c s h => ⟨h.tb, h.cs, h.ro, zEf h.ss ⟨(zGH hl s zFp).1, zPV hl _⟩, h.wh, h.qw, h.qi, h.g⟩
theorem zUG : CkP (zGj l) := fun c s h => by
 unfold zGj
 split
 ·exact ⟨h.tb, h.cs, h.ro, h.ss, h.wh, h.qw, zEf h.qi (zPV hl _), h.g⟩
 split
 ·exact ⟨h.tb, h.cs, h.ro, h.ss, h.wh, h.qw, zEf h.qi zHN, h.g⟩
 ·exact ⟨h.tb, h.cs, h.ro, h.ss, h.wh, h.qw, zEf h.qi (zPV hl _), h.g⟩
omit hl in
theorem zTR : CkP (zHk l) := fun _ _ h => ⟨h.tb, h.cs, h.ro, h.ss, h.wh, h.qw, h.qi, h.g⟩
omit hl in
theorem zEB (t : Tok) : CkP (zDf l t) := fun _ _ h => h
theorem zUi : CkP (zRH l) := fun _ s h => ⟨(zGH hl s zFp).1, h.cs, h.ro, h.ss, h.wh, h.qw, h.qi, h.g⟩
theorem zRl : CkP (zMS l) := fun _ s h => ⟨h.tb, h.cs, h.ro, h.ss, zTE hl s, h.qw, h.qi, h.g⟩
theorem zTD : CkP (zPL l) := fun _ s h => ⟨h.tb, h.cs, h.ro, h.ss, h.wh, zTE hl s, h.qi, h.g⟩
theorem zRq (c : Cmd) (s : Spot) (h : Ck c) : Ck (zJp l c s).1 := ⟨(zGH hl _ zFp).1, h.cs, h.ro, h.ss, h.wh, h.qw, h.qi, h.g⟩
theorem zRZ (c : Cmd) (s : Spot) (h : Ck c) : Ck (zHw l c s).1 := by
 have h := zRq hl c s h
 exact ⟨h.tb, h.cs, h.ro, h.ss, h.wh, h.qw, h.qi, h.g⟩
theorem zQw (d : Bool) : CkP (ofF l d) := fun c s h => by
 unfold ofF
 split
 ·exact zRZ hl c s h
 ·exact zRq hl c s h
theorem zUK : CkP (zMp l) := fun c s h => by
 unfold zMp
 split
 ·exact ⟨h.tb, h.cs, h.ro, h.ss, h.wh, h.qw, h.qi, (zGH hl _ zFp).1⟩
 ·exact h
omit hl in
theorem zUd : CkP (zNe l) := fun c s h => by
 unfold zNe
 split
 ·exact zFx zTR _ _ _ h
 ·exact h
omit hl in
theorem zUC : CkP (zNT l) := fun c s h => by
 unfold zNT
 split
 ·exact ⟨h.tb, h.cs, h.ro, h.ss, h.wh, h.qw, h.qi, h.g⟩
 ·exact h
omit hl in
theorem zDi {g k : Stp} (a : CkP g) (b : CkP k) : CkP (sqF g k) := fun c s h => b _ _ (a c s h)
theorem zT6 : CkP (zNd l) := zDi (zFx (zUG hl) _) (zDi (zEB zB3) (zDi (zQw hl false) (zDi (zTD hl) (zDi (zUK hl) (zDi zUd zUC)))))
theorem zRT (c : Cmd) (s : Spot) (t : Tok) (h : Ck c) : Ck (zID l c s t).1 := by
 unfold zID zIl
 have h := zRZ hl { c with rt := (ooF l s 0 rwW).1 } (zAk l (ooF l s 0 rwW).2 [zKA]) ⟨h.tb, h.cs, h.ro, h.ss, h.wh, h.qw, h.qi, h.g⟩
 exact ⟨h.tb, h.cs, h.ro, h.ss, h.wh, h.qw, h.qi, h.g⟩
theorem zT0 : CkP (zLW l) := fun c s h => by
 unfold zLW
 split
 ·unfold zRF
  have h := zRT hl { c with k := 6 } ⟨s.p + 1, s.e⟩ zJm ⟨h.tb, h.cs, h.ro, h.ss, h.wh, h.qw, h.qi, h.g⟩
  split
  ·exact ⟨h.tb, h.cs, h.ro, h.ss, h.wh, h.qw, h.qi, h.g⟩
  ·exact h
 split
 ·exact zRT hl { c with k := 7 } ⟨s.p + 1, s.e⟩ zB3 ⟨h.tb, h.cs, h.ro, h.ss, h.wh, h.qw, h.qi, h.g⟩
 ·exact h
theorem zU5 : CkP (zHm l) := fun c s h => by
 have hk : ∀ k, Ck { c with k := k } := fun k => ⟨h.tb, h.cs, h.ro, h.ss, h.wh, h.qw, h.qi, h.g⟩
 unfold zHm
 split
 ·exact zDi (zEB zEw) (zDi (zUi hl) (zDi (zEB zBf) (zDi (zFx (zU3 hl) _) (zEB zB7)))) _ _ (hk 1)
 split
 ·exact zDi (zEB zFr) (zDi (zQw hl true) (zDi (zEB zDP) (zDi (zEB zBf) (zDi (zFx (zTI hl) _) (zEB zB7))))) _ _ (hk 2)
 split
 ·exact zDi (zQw hl true) (zDi (zEB zEY) (zDi (zFx (zTW hl) _) (zRl hl))) _ _ (hk 3)
 split
 ·exact zDi (zEB zB3) (zDi (zQw hl true) (zRl hl)) _ _ (hk 4)
 split
 ·exact zT6 hl _ _ (hk 5)
 ·exact zT0 hl _ _ h
end
def SzN (l : List Tok) (n : Nat) (g : Stp) : Prop := ∀ c s m, Szs c m -> Szs (g c s).1 (m + n)
theorem zB6 {l : List Tok} {g : Stp} (h : SzP g) : SzN l 0 g := h
theorem zB5 {l : List Tok} {g k : Stp} {n m : Nat} (a : SzN l n g) (b : SzN l m k) : SzN l (n + m) (sqF g k) := fun c s i h => by
 have := b _ (g c s).2 _ (a c s i h)
 rw [Nat.add_assoc] at this
 exact this
theorem zGO {l : List Tok} {g : Stp} (hz : SzD g) : SzN l (1 + l.length) (zBk l g (l.length + 1)) := fun c s m h => by
 have := zMe (l := l) hz h s
 rw [Nat.add_assoc] at this
 exact this
theorem zUb (l : List Tok) : SzN l (1 + l.length) (zNe l) := fun c s m h => by
 unfold zNe
 split
 ·exact zGO (zN5 l) _ _ _ h
 ·exact h.mono (by omega)
theorem zRj (l : List Tok) : SzP (zMS l) := fun _ _ _ h => ⟨h.cs, h.ro, h.ss, h.is, h.so⟩
theorem zTB (l : List Tok) : SzP (zPL l) := fun _ _ _ h => ⟨h.cs, h.ro, h.ss, h.is, h.so⟩
theorem zUJ (l : List Tok) : SzP (zMp l) := fun _ s _ h => zLc l h s
theorem zUA (l : List Tok) : SzP (zNT l) := fun _ _ _ h => by
 unfold zNT
 split
 ·exact ⟨h.cs, h.ro, h.ss, h.is, h.so⟩
 ·exact h
theorem zTZ (l : List Tok) : SzP (zLW l) := fun c s n h => by
 unfold zLW
 split
 ·unfold zRF zID zIl zHw zJp
  split
  ·exact ⟨h.cs, h.ro, h.ss, h.is, h.so⟩
  ·exact ⟨h.cs, h.ro, h.ss, h.is, h.so⟩
 split
 ·unfold zID zIl zHw zJp
  exact ⟨h.cs, h.ro, h.ss, h.is, h.so⟩
 ·exact h
theorem zT4 (l : List Tok) : SzN l (2 + 2 * l.length) (zNd l) := fun c s m h =>
 (zB5 (zGO (zJV l)) (zB5 (zB6 (l := l) (zEz l zB3)) (zB5 (zB6 (l := l) (zKW l false)) (zB5 (zB6 (l := l) (zTB l)) (zB5 (zB6 (l := l) (zUJ l)) (zB5 (zUb l) (zB6 (l := l) (zUA l))))))) c s m h).mono (by omega)
theorem zPo (l : List Tok) (s : Spot) : Szs (zHm l zFM s).1 (2 + 2 * l.length) := by
 have hk : ∀ k, Szs { zFM with k := k } 0 := fun k => ⟨Nat.le_refl _, Nat.le_refl _, Nat.le_refl _, Nat.le_refl _, Nat.le_refl _⟩
 unfold zHm
 split
 ·exact (zB5 (zB6 (l := l) (zEz l zEw)) (zB5 (zB6 (l := l) (zUg l)) (zB5 (zB6 (l := l) (zEz l zBf)) (zB5 (zGO (zPl l)) (zB6 (l := l) (zEz l zB7))))) _ _ _ (hk 1)).mono (by omega)
 split
 ·exact (zB5 (zB6 (l := l) (zEz l zFr)) (zB5 (zB6 (l := l) (zKW l true)) (zB5 (zB6 (l := l) (zEz l zDP)) (zB5 (zB6 (l := l) (zEz l zBf)) (zB5 (zGO (zNZ l)) (zB6 (l := l) (zEz l zB7)))))) _ _ _ (hk 2)).mono (by omega)
 split
 ·exact (zB5 (zB6 (l := l) (zKW l true)) (zB5 (zB6 (l := l) (zEz l zEY)) (zB5 (zGO (zOc l)) (zB6 (l := l) (zRj l)))) _ _ _ (hk 3)).mono (by omega)
 split
 ·exact (zB5 (zB6 (l := l) (zEz l zB3)) (zB5 (zB6 (l := l) (zKW l true)) (zB6 (l := l) (zRj l))) _ _ _ (hk 4)).mono (by omega)
 split
 ·exact (zT4 l _ _ _ (hk 5)).mono (by omega)
 ·exact (zTZ l _ s _ (hk 0)).mono (by omega)
theorem zLq : Ck zFM := ⟨Nat.zero_le _, fun _ h => (nomatch h), fun _ h => (nomatch h), fun _ h => (nomatch h), zHN, zHN, fun _ h => (nomatch h), Nat.zero_le _⟩
theorem zR1 {l : List Tok} (hl : zCH l) (hL : l.length <= 100) (s : Spot) : (zHm l zFM s).1.ok := by
 have h := zU5 hl _ s zLq
 have z := zPo l s
 have hm : 2 + 2 * l.length <= maxLen := Nat.le_trans (show 2 + 2 * l.length <= 202 by omega) (by decide)
 exact ⟨h.tb, h.cs, h.ro, h.ss, h.wh, ⟨h.qw, h.qi, Nat.le_trans z.is hm, Nat.le_trans z.so hm⟩, h.g⟩
theorem zSr (l : List Tok) : Fw l (zLW l) := fun c s => by
 have hg : ∀ (c : Cmd) (s : Spot) (t : Tok), s.p <= (zID l c s t).2.p /\ (s.p <= l.length -> (zID l c s t).2.p <= l.length) := fun c s t => by
  unfold zID zIl
  exact zAu (zOB l s rwW 0) (zAu (zAo l [zKA] _) (zAu (zDZ l true { c with rt := (ooF l s 0 rwW).1 } _) (zAu (zAo l [t] _) (zBS l _ zBV))))
 unfold zLW
 split
 ·rename_i h
  refine zAu (t := ⟨s.p + 1, s.e⟩) (zAH h) (zAu (hg { c with k := 6 } ⟨s.p + 1, s.e⟩ zJm) ?_)
  unfold zRF
  split
  ·exact zAo l [zGw, zMX] _
  ·exact ⟨Nat.le_refl _, id⟩
 split
 ·rename_i h
  exact zAu (t := ⟨s.p + 1, s.e⟩) (zAH h) (hg { c with k := 7 } ⟨s.p + 1, s.e⟩ zB3)
 ·exact zPA l s
theorem zRk (l : List Tok) : Fw l (zMS l) := fun _ s => zH9 l s
theorem zT5 (l : List Tok) : Fw l (zNd l) := zDh (zQD (zHQ l)) (zDh (zEA l zB3) (zDh (zDZ l false) (zDh (zTC l) (zDh (zMn l) (zDh (zUc l) (zUB l))))))
theorem zR2 (l : List Tok) : Fw l (zHm l) := fun c s => by
 unfold zHm
 split
 ·rename_i h
  exact zAu (t := ⟨s.p + 1, s.e⟩) (zAH h) (zDh (zEA l zEw) (zDh (zUh l) (zDh (zEA l zBf) (zDh (zQD (zKg l)) (zEA l zB7)))) _ _)
 split
 ·rename_i h
  exact zAu (t := ⟨s.p + 1, s.e⟩) (zAH h) (zDh (zEA l zFr) (zDh (zDZ l true) (zDh (zEA l zDP) (zDh (zEA l zBf) (zDh (zQD (zJk l)) (zEA l zB7))))) _ _)
 split
 ·rename_i h
  exact zAu (t := ⟨s.p + 1, s.e⟩) (zAH h) (zDh (zDZ l true) (zDh (zEA l zEY) (zDh (zQD (zHF l)) (zRk l))) _ _)
 split
 ·rename_i h
  exact zAu (t := ⟨s.p + 1, s.e⟩) (zAH h) (zDh (zEA l zB3) (zDh (zDZ l true) (zRk l)) _ _)
 split
 ·rename_i h
  exact zAu (t := ⟨s.p + 1, s.e⟩) (zAH h) (zT5 l _ _)
 ·exact zSr l c s
def zRD (l : List Tok) : Cmd × Int × Int :=
 if 100 < l.length then (zFM, 0, 1) else if (zEK l).2.2 ≠ 0 then (zFM, (zEK l).2.1, (zEK l).2.2)
 else if cmF (zEK l).1 ≠ 0 then (zFM, 0, cmF (zEK l).1) else ((zEK l).1, 0, 0)
theorem zOj {l : List Tok} (hl : zCH l) (hL : l.length <= 100) : (zEK l).1.ok := by
 unfold zEK
 split
 ·exact zR1 hl hL _
 ·have h := zLq
  exact ⟨h.tb, h.cs, h.ro, h.ss, h.wh, ⟨h.qw, h.qi, Nat.zero_le _, Nat.zero_le _⟩, h.g⟩
theorem zT9 (l : List Tok) (hl : zCH l) : FnG Tryz.prog 4 (gY) [.one (.e (zFU l))] (zV1 (zRD l)) := by
 refine zG 27 Tryz.func4 fun X hnt => ?_
 have h0 : (l.map zBO).length = l.length := List.length_map ..
 unfold zRD
 repeat' first | refine zx ?_ | fail
 refine zc (fun hc => ?_) fun hc => ?_
 ·simp only [zz] at hc
  (try simp only [h0] at hc)
  (try simp only [zz] at hc)
  rw [if_pos (by omega)]
  repeat' first | refine zx ?_ | apply zn
  exact zAb ⟨.inr rfl, _, _, rfl, (by repeat' first | exact trivial | exact Nat.le_of_ble_eq_true rfl | exact rfl | apply And.intro), rfl⟩
 simp only [zz] at hc
 (try simp only [h0] at hc)
 (try simp only [zz] at hc)
 have hL : l.length <= 100 := by omega
 rw [if_neg (by omega)]
 have h1 := zVL l hl.1 hL ((zR2 l zFM ⟨0, 0⟩).2 (Nat.zero_le _))
 have ho := zOj hl hL
 generalize zEK l = r at h1 ho ⊢
 obtain ⟨c, p, e⟩ := r
 dsimp only at h1 ho ⊢
 refine zV h1 ?_
 refine zAq (s' := St.of [(2, .one (.ptr 2 0 0)), (3, .one (.e (eI p))), (4, .one (.e (eI e))), (1000003, .one (.eptr spE)), (1000005, .one (.eptr fsE)), (1000006, .one (.eptr acE))] [(2, ⟨0, .box (.es (zBC c)), 0⟩)]) (zAh (ad := []) ⟨zzl, zzl, zzl, zzl, zzl, zzl, trivial⟩ zm) ?_
 repeat' first | refine zx ?_ | fail
 refine zc (fun hc => ?_) fun hc => ?_
 ·simp only [zz] at hc
  rw [if_pos hc]
  repeat' first | refine zx ?_ | apply zn
  exact zAb ⟨.inr rfl, _, _, rfl, (by repeat' first | exact trivial | exact Nat.le_of_ble_eq_true rfl | exact rfl | apply And.intro), rfl⟩
 simp only [zz] at hc
 rw [if_neg (by simpa using hc)]
 have h2 := zM3 c ho
 refine zV h2 ?_
 repeat' first | refine zx ?_ | fail
 refine zc (fun hc => ?_) fun hc => ?_
 ·simp only [zz] at hc
  rw [if_pos hc]
  repeat' first | refine zx ?_ | apply zn
  exact zAb ⟨.inr rfl, _, _, rfl, (by repeat' first | exact trivial | exact Nat.le_of_ble_eq_true rfl | exact rfl | apply And.intro), rfl⟩
 simp only [zz] at hc
 rw [if_neg (by simpa using hc)]
 repeat' first | refine zx ?_ | apply zn
 exact zAb ⟨.inr rfl, _, _, rfl, (by repeat' first | exact trivial | exact Nat.le_of_ble_eq_true rfl | exact rfl | apply And.intro), rfl⟩
theorem fa1 : Fld [67, 79, 85, 78, 84] [[67, 79, 85, 78, 84]] := zzF
theorem fa2 : Fld [83, 85, 77] [[83, 85, 77]] := zzF
theorem fa3 : Fld [77, 73, 78] [[77, 73, 78]] := zzF
theorem fa4 : Fld [77, 65, 88] [[77, 65, 88]] := zzF
theorem fSt : Fld [42] [[42]] := zzF
theorem fCt : Fld [67, 79, 85, 78, 84, 32, 40, 32, 42, 32, 41] [[67, 79, 85, 78, 84], [40], [42], [41]] := zzF
theorem fb2 : Fld [83, 85, 77, 32, 40] [[83, 85, 77], [40]] := zzF
theorem fb3 : Fld [77, 73, 78, 32, 40] [[77, 73, 78], [40]] := zzF
theorem fb4 : Fld [77, 65, 88, 32, 40] [[77, 65, 88], [40]] := zzF
theorem zWx (l : List Tok) (hm : l.length <= maxLen) : ∀ w ∈ agW, w ≠ [] -> Wrd l w := fun w hw hn => by
 unfold agW at hw
 simp only [List.mem_cons, List.not_mem_nil, or_false] at hw
 rcases hw with rfl | rfl | rfl | rfl | rfl
 ·exact absurd rfl hn
 ·exact zBe hm fa1 rfl (by decide)
 ·exact zBe hm fa2 rfl (by decide)
 ·exact zBe hm fa3 rfl (by decide)
 ·exact zBe hm fa4 rfl (by decide)
def agT (a : Nat) : Tok := wdT (agW.getD a [])
def agU (l : List Tok) (s : Spot) : Nat -> Int
 | 0 => 0
 | i + 1 => if agW.getD i [] ≠ [] /\ zAc l s (agT i) = true then (i : Int) else agU l s i
theorem zVf (l : List Tok) (s : Spot) : agU l s 5 = agF l s /\ (agF l s = 0 \/ (agF l s = 1 /\ zAc l s (agT 1) = true) \/ (agF l s = 2 /\ zAc l s (agT 2) = true) \/ (agF l s = 3 /\ zAc l s (agT 3) = true) \/ (agF l s = 4 /\ zAc l s (agT 4) = true)) := by
 have e : agF l s = if zAc l s (agT 1) = true then 1 else if zAc l s (agT 2) = true then 2 else if zAc l s (agT 3) = true then 3 else if zAc l s (agT 4) = true then 4 else 0 := by
  unfold agF agW
  rw [ooF, if_neg (fun h => h.1 rfl), ooF, ooF, ooF, ooF, ooF]
  simp only [ne_eq, reduceCtorEq, not_false_eq_true, true_and]
  show (if zAc l s (agT 1) = true then _ else if zAc l s (agT 2) = true then _ else if zAc l s (agT 3) = true then _ else if zAc l s (agT 4) = true then _ else _ : Int × Spot).1 = _
  repeat' split
  all_goals rfl
 have e2 : agU l s 5 = if zAc l s (agT 4) = true then 4 else if zAc l s (agT 3) = true then 3 else if zAc l s (agT 2) = true then 2 else if zAc l s (agT 1) = true then 1 else 0 := by
  simp [agU, agW]
 rw [e2, e]
 by_cases h1 : zAc l s (agT 1) = true
 ·rw [if_pos h1, zBB h1 (show agT 1 ≠ agT 4 by decide), zBB h1 (show agT 1 ≠ agT 3 by decide), zBB h1 (show agT 1 ≠ agT 2 by decide)]
  simp [h1]
 rw [if_neg h1]
 have h1 : zAc l s (agT 1) = false := by simpa using h1
 by_cases h2 : zAc l s (agT 2) = true
 ·rw [if_pos h2, zBB h2 (show agT 2 ≠ agT 4 by decide), zBB h2 (show agT 2 ≠ agT 3 by decide)]
  simp [h1, h2]
 rw [if_neg h2]
 have h2 : zAc l s (agT 2) = false := by simpa using h2
 by_cases h3 : zAc l s (agT 3) = true
 ·rw [if_pos h3, zBB h3 (show agT 3 ≠ agT 4 by decide)]
  simp [h1, h2, h3]
 rw [if_neg h3]
 have h3 : zAc l s (agT 3) = false := by simpa using h3
 by_cases h4 : zAc l s (agT 4) = true
 ·rw [if_pos h4]
  simp [h1, h2, h3, h4]
 ·rw [if_neg h4]
  simp [h1, h2, h3]
theorem zW9 {u v w x : Byt} (a : Tks u [wtk u]) (b : Tks v [wtk v]) (c : Tks w [wtk w]) (d : Tks x [wtk x]) : ∀ y ∈ [u, v, w, x], Tks y [wtk y] := fun y hy => by
 simp only [List.mem_cons, List.not_mem_nil, or_false] at hy
 rcases hy with rfl | rfl | rfl | rfl <;> assumption
theorem zVW (l : List Tok) (hm : l.length <= maxLen) (s : Spot) : Pst l s [67, 79, 85, 78, 84, 32, 40, 32, 42, 32, 41] [agT 1, zBf, zJn, zB7] := zBr l hm s _ [[67, 79, 85, 78, 84], [40], [42], [41]] fCt (zW9 (tk1 fa1 (by decide)) (tk1 zCb (by decide)) (tk1 fSt (by decide)) (tk1 zIL (by decide))) (by decide)
theorem zV0 (l : List Tok) (hm : l.length <= maxLen) (s : Spot) : Pst l s [83, 85, 77, 32, 40] [agT 2, zBf] := zBr l hm s _ [[83, 85, 77], [40]] fb2 (zPM (tk1 fa2 (by decide)) (tk1 zCb (by decide))) (by decide)
theorem zVZ (l : List Tok) (hm : l.length <= maxLen) (s : Spot) : Pst l s [77, 73, 78, 32, 40] [agT 3, zBf] := zBr l hm s _ [[77, 73, 78], [40]] fb3 (zPM (tk1 fa3 (by decide)) (tk1 zCb (by decide))) (by decide)
theorem zVY (l : List Tok) (hm : l.length <= maxLen) (s : Spot) : Pst l s [77, 65, 88, 32, 40] [agT 4, zBf] := zBr l hm s _ [[77, 65, 88], [40]] fb4 (zPM (tk1 fa4 (by decide)) (tk1 zCb (by decide))) (by decide)
theorem zGg (l : List Tok) : ∀ (a b : List Tok) (s : Spot), zAk l s (a ++ b) = zAk l (zAk l s a) b
 | [], b, s => rfl
 | t :: r, b, s => by
  rw [List.cons_append, zAQ, zAQ]
  by_cases h : zAc l s t = true
  ·rw [if_pos h, if_pos h]
   exact zGg l r b _
  ·rw [if_neg h, if_neg h]
   have hb : (zBQ l s).e ≠ 0 := by
    by_cases he : s.e = 0
    ·obtain ⟨p, e⟩ := s
     subst he
     exact zCY
    ·rw [zPB he]
     exact he
   rw [zBJ hb]
def mdI (l : List Tok) (s : Spot) (c : Cmd) (t : Itm) : List (Nat × Blk) := [(900000, ⟨0, .box (.ds (bdC c)), 0⟩), (900001, ⟨0, .row 3 (c.cs.map zCm), 0⟩), (900002, ⟨0, .row 4 (c.ro.map zBw), 0⟩), (900003, ⟨0, .row 8 (c.ss.map zCe), 0⟩), (900004, ⟨0, .row 8 (c.q.is.map zBP), 0⟩), (900005, ⟨0, .row 2 (c.q.ss.map zC3), 0⟩), (900006, ⟨0, .box (.ds [.ptr 900000 0 14]), 0⟩), (2, ⟨0, .box (.es (eSp l s)), 0⟩), (3, ⟨0, .box (.ds [.nil, .e (eI 0), .e (eI 0)]), 0⟩), (4, ⟨0, .box (.es (zBP t)), 0⟩)]
theorem zXP {i : Nat} (h : i < 5) : ((Cs.es agE).load { size := 1, bytes := 16, k := K.str, zero := [Value.string ByteArray.empty] } (i * ({ size := 1, bytes := 16, k := K.str, zero := [Value.string ByteArray.empty] } : TI).size)).1 := by
 have : i = 0 \/ i = 1 \/ i = 2 \/ i = 3 \/ i = 4 := by omega
 rcases this with rfl | rfl | rfl | rfl | rfl <;> exact ⟨Nat.le_of_ble_eq_true rfl, rfl⟩
theorem zXO {i : Nat} (h : i < 5) : agE.getD (i * ({ size := 1, bytes := 16, k := K.str, zero := [Value.string ByteArray.empty] } : TI).size) E.dflt = eT (agW.getD i []) := by
 have : i = 0 \/ i = 1 \/ i = 2 \/ i = 3 \/ i = 4 := by omega
 rcases this with rfl | rfl | rfl | rfl | rfl <;> rfl
theorem zXp (l : List Tok) (ho : zAW l) (s : Spot) (c : Cmd) (hp : s.p <= l.length) (hz : Szs c 300) : FnH Tryz.prog 73 (gDc) (mdP c 14) [.agg (.es (eSp l s)), .one (.ptr 900006 0 0)] (.agg (.es (eSp l (zGj l c s).2))) (mdP (zGj l c s).1 14) := by
 refine zFH 62 Tryz.func73 fun X hnt => ?_
 have hz2 : (c.q.is.map zBP).length <= 300 := Nat.le_trans (Nat.le_of_eq (List.length_map ..)) hz.is
 repeat' first | refine zx ?_ | apply zn
 refine zAx (σ := Nat) (fun i => St.of [(1, .one (.ptr 900006 0 0)), (2, .one (.ptr 2 0 0)), (3, .one (.ptr 3 0 0)), (4, .one (.ptr 4 0 0)), (8, .agg (.es agE)), (9, .one (.e (eI (i : Int)))), (900000, .one (.ptr 900000 0 0)), (900006, .one (.ptr 900006 0 0)) , (1000000, .one (.eptr kwE)), (1000001, .one (.eptr agE)), (1000002, .one (.eptr rgE)), (1000003, .one (.eptr spE)), (1000004, .one (.eptr mkE)), (1000005, .one (.eptr fsE)), (1000006, .one (.eptr acE))] (mdI l s c ⟨agU l s i, ex0⟩)) (fun i => i <= 5) (fun i => 5 - i) 0 zle (Nat.zero_le _) ?_
 rintro i i5
 repeat' first | refine zx ?_ | fail
 refine zc (fun hc => ?_) fun hc => ?_
 rotate_left
 ·simp only [zz] at hc
  have i5 : i = 5 := by omega
  subst i5
  obtain ⟨e5, hag⟩ := zVf l s
  rw [e5]
  refine zAt ?_
  repeat' apply zn
  clear e5
  rcases hag with ha | ⟨ha, hw⟩ | ⟨ha, hw⟩ | ⟨ha, hw⟩ | ⟨ha, hw⟩
  ·unfold zGj
   rw [ha, if_pos rfl]
   have h3 := xpD l ho s hp
   unfold Clb zIo at h3
   generalize xpF l s = A at h3 ⊢
   obtain ⟨x, s3⟩ := A
   dsimp only at h3 ⊢
   rw [zAp x] at h3
   repeat' first | refine zx ?_ | fail
   refine zc (fun hc => ?_) fun hc => ?_
   rotate_left
   ·exact absurd (show true = false from hc) Bool.noConfusion
   refine zV h3 ?_
   refine zy ?_ ?_
   ·exact zzh
   repeat' first | refine zx ?_ | apply zn
   exact zAb ⟨.inr rfl, _, _, _, rfl, zzp, rfl, fun X => zAh (ad := []) zzi (zAg rfl rfl zzi (zAe rfl rfl rfl (zAe rfl rfl rfl (zAe rfl rfl rfl (zAe rfl rfl (zFO zBP c.q.is (⟨0, x⟩)) zm)))))⟩
  ·unfold zGj
   rw [ha, if_neg (by decide), if_pos rfl]
   have h3 := zVW l ho.1 s
   unfold Pst at h3
   rw [zAQ, if_pos hw, show [zBf, zJn, zB7] = [zBf] ++ ([zJn] ++ [zB7]) from rfl, zGg, zGg] at h3
   generalize zAk l (zAk l (zAk l ⟨s.p + 1, s.e⟩ [zBf]) [zJn]) [zB7] = s3 at h3 ⊢
   repeat' first | refine zx ?_ | fail
   refine zc (fun hc => ?_) fun hc => ?_
   ·exact absurd (show false = true from hc) Bool.noConfusion
   repeat' first | refine zx ?_ | fail
   refine zc (fun hc => ?_) fun hc => ?_
   rotate_left
   ·exact absurd (show true = false from hc) Bool.noConfusion
   refine zV h3 ?_
   refine zy ?_ ?_
   ·exact zzh
   repeat' first | refine zx ?_ | apply zn
   exact zAb ⟨.inr rfl, _, _, _, rfl, zzp, rfl, fun X => zAh (ad := []) zzi (zAg rfl rfl zzi (zAe rfl rfl rfl (zAe rfl rfl rfl (zAe rfl rfl rfl (zAe rfl rfl (zFO zBP c.q.is (⟨1, ex0⟩)) zm)))))⟩
  ·unfold zGj
   rw [ha, if_neg (by decide), if_neg (by decide)]
   have h2 := zV0 l ho.1 s
   unfold Pst at h2
   rw [zAQ, if_pos hw] at h2
   have hf2 := (zAo l [zBf] ⟨s.p + 1, s.e⟩).2 ((zAH hw).2 hp)
   generalize zAk l ⟨s.p + 1, s.e⟩ [zBf] = s2 at h2 hf2 ⊢
   have h3 := xpD l ho s2 hf2
   unfold Clb zIo at h3
   generalize xpF l s2 = A at h3 ⊢
   obtain ⟨x, s3⟩ := A
   have h4 := zRC l ho.1 s3
   unfold Pst at h4
   dsimp only at h3 h4 ⊢
   rw [zAp x] at h3
   repeat' first | refine zx ?_ | fail
   refine zc (fun hc => ?_) fun hc => ?_
   ·exact absurd (show false = true from hc) Bool.noConfusion
   repeat' first | refine zx ?_ | fail
   refine zc (fun hc => ?_) fun hc => ?_
   ·exact absurd (show false = true from hc) Bool.noConfusion
   repeat' apply zn
   refine zAK (T := tab) tOk hnt zAO (zA2 (T := tab) rfl ?_ (zCI rfl rfl rfl rfl rfl rfl rfl rfl rfl (h2) (zA2 (T := tab) rfl ?_ (zCI rfl rfl rfl rfl rfl rfl rfl rfl rfl (h3) (zA2 (T := tab) rfl ?_ (.nil _)))))) (by first | decide +kernel | kernel_rfl) ?_
   ·exact zzt
   ·exact zzt
   ·exact zzt
   refine zV h4 ?_
   refine zy ?_ ?_
   ·exact zzh
   repeat' first | refine zx ?_ | apply zn
   exact zAb ⟨.inr rfl, _, _, _, rfl, zzp, rfl, fun X => zAh (ad := []) zzi (zAg rfl rfl zzi (zAe rfl rfl rfl (zAe rfl rfl rfl (zAe rfl rfl rfl (zAe rfl rfl (zFO zBP c.q.is (⟨2, x⟩)) zm)))))⟩
  ·unfold zGj
   rw [ha, if_neg (by decide), if_neg (by decide)]
   have h2 := zVZ l ho.1 s
   unfold Pst at h2
   rw [zAQ, if_pos hw] at h2
   have hf2 := (zAo l [zBf] ⟨s.p + 1, s.e⟩).2 ((zAH hw).2 hp)
   generalize zAk l ⟨s.p + 1, s.e⟩ [zBf] = s2 at h2 hf2 ⊢
   have h3 := xpD l ho s2 hf2
   unfold Clb zIo at h3
   generalize xpF l s2 = A at h3 ⊢
   obtain ⟨x, s3⟩ := A
   have h4 := zRC l ho.1 s3
   unfold Pst at h4
   dsimp only at h3 h4 ⊢
   rw [zAp x] at h3
   repeat' first | refine zx ?_ | fail
   refine zc (fun hc => ?_) fun hc => ?_
   ·exact absurd (show false = true from hc) Bool.noConfusion
   repeat' first | refine zx ?_ | fail
   refine zc (fun hc => ?_) fun hc => ?_
   ·exact absurd (show false = true from hc) Bool.noConfusion
   repeat' apply zn
   refine zAK (T := tab) tOk hnt zAO (zA2 (T := tab) rfl ?_ (zCI rfl rfl rfl rfl rfl rfl rfl rfl rfl (h2) (zA2 (T := tab) rfl ?_ (zCI rfl rfl rfl rfl rfl rfl rfl rfl rfl (h3) (zA2 (T := tab) rfl ?_ (.nil _)))))) (by first | decide +kernel | kernel_rfl) ?_
   ·exact zzt
   ·exact zzt
   ·exact zzt
   refine zV h4 ?_
   refine zy ?_ ?_
   ·exact zzh
   repeat' first | refine zx ?_ | apply zn
   exact zAb ⟨.inr rfl, _, _, _, rfl, zzp, rfl, fun X => zAh (ad := []) zzi (zAg rfl rfl zzi (zAe rfl rfl rfl (zAe rfl rfl rfl (zAe rfl rfl rfl (zAe rfl rfl (zFO zBP c.q.is (⟨3, x⟩)) zm)))))⟩
  ·unfold zGj
   rw [ha, if_neg (by decide), if_neg (by decide)]
   have h2 := zVY l ho.1 s
   unfold Pst at h2
   rw [zAQ, if_pos hw] at h2
   have hf2 := (zAo l [zBf] ⟨s.p + 1, s.e⟩).2 ((zAH hw).2 hp)
   generalize zAk l ⟨s.p + 1, s.e⟩ [zBf] = s2 at h2 hf2 ⊢
   have h3 := xpD l ho s2 hf2
   unfold Clb zIo at h3
   generalize xpF l s2 = A at h3 ⊢
   obtain ⟨x, s3⟩ := A
   have h4 := zRC l ho.1 s3
   unfold Pst at h4
   dsimp only at h3 h4 ⊢
   rw [zAp x] at h3
   repeat' first | refine zx ?_ | fail
   refine zc (fun hc => ?_) fun hc => ?_
   ·exact absurd (show false = true from hc) Bool.noConfusion
   repeat' first | refine zx ?_ | fail
   refine zc (fun hc => ?_) fun hc => ?_
   ·exact absurd (show false = true from hc) Bool.noConfusion
   repeat' apply zn
   refine zAK (T := tab) tOk hnt zAO (zA2 (T := tab) rfl ?_ (zCI rfl rfl rfl rfl rfl rfl rfl rfl rfl (h2) (zA2 (T := tab) rfl ?_ (zCI rfl rfl rfl rfl rfl rfl rfl rfl rfl (h3) (zA2 (T := tab) rfl ?_ (.nil _)))))) (by first | decide +kernel | kernel_rfl) ?_
   ·exact zzt
   ·exact zzt
   ·exact zzt
   refine zV h4 ?_
   refine zy ?_ ?_
   ·exact zzh
   repeat' first | refine zx ?_ | apply zn
   exact zAb ⟨.inr rfl, _, _, _, rfl, zzp, rfl, fun X => zAh (ad := []) zzi (zAg rfl rfl zzi (zAe rfl rfl rfl (zAe rfl rfl rfl (zAe rfl rfl rfl (zAe rfl rfl (zFO zBP c.q.is (⟨4, x⟩)) zm)))))⟩
 simp only [zz] at hc
 have hlt : i < 5 := by omega
 have hwi := zWx l ho.1 (agW.getD i []) (by rw [List.getD_eq_getElem?_getD, List.getElem?_eq_getElem (show i < agW.length from hlt)]; exact List.getElem_mem _)
 have hU : agU l s (i + 1) = if agW.getD i [] ≠ [] /\ zAc l s (wdT (agW.getD i [])) = true then (i : Int) else agU l s i := rfl
 refine zy ?_ ?_
 ·exact ⟨trivial, trivial, ⟨by omega, by omega, zXP hlt⟩, trivial⟩
 rw [Int.toNat_natCast, zXO hlt]
 generalize agW.getD i [] = x at *
 have e0 : (!zA1 (eT x).str { data := #[] }) = !decide (x = []) := congrArg (!·) (zAY x [])
 repeat' apply zn
 refine zAa (zzx hnt rfl ?_ (callVG rfl rfl rfl rfl rfl rfl hnt rfl (fun hq => ?_) rfl (fun hq => (zAT l s x (wdT x) [] (hwi (fun he => by have h := e0.symm.trans hq; simp [he] at h)).tk)) (zzx hnt rfl ?_ (Lex.nil _)))) ?_
 ·exact zza
 ·exact zza
 ·exact zza
 rw [e0]
 refine zc (fun hc => ?_) fun hc => ?_
 ·have hc : x ≠ [] /\ zAc l s (wdT x) = true := by
   by_cases hx : x = []
   ·simp [hx] at hc
   ·simp [hx] at hc
    exact ⟨hx, hc⟩
  rw [if_pos hc] at hU
  repeat' first | refine zx ?_ | apply zn
  refine ⟨i + 1, hlt, by omega, ?_⟩
  rw [hU]
  exact zAh (ad := []) (by refine ⟨?_, ?_, ?_, ?_, ?_, ?_, ?_, ?_, ?_, ?_, ?_, ?_, ?_, ?_, ?_, trivial⟩ <;> first | exact trivial | rfl | exact congrArg (fun z : Int => E.v (.int .i64 z)) (zAf (by omega) (by omega)) | exact ⟨rfl, rfl, rfl, rfl, rfl⟩) zm
 have hc : ¬ (x ≠ [] /\ zAc l s (wdT x) = true) := fun ⟨h1, h2⟩ => by
  simp [h1, h2] at hc
 rw [if_neg hc] at hU
 repeat' first | refine zx ?_ | apply zn
 refine ⟨i + 1, hlt, by omega, ?_⟩
 rw [hU]
 exact zAh (ad := []) (by refine ⟨?_, ?_, ?_, ?_, ?_, ?_, ?_, ?_, ?_, ?_, ?_, ?_, ?_, ?_, ?_, trivial⟩ <;> first | exact trivial | rfl | exact congrArg (fun z : Int => E.v (.int .i64 z)) (zAf (by omega) (by omega)) | exact ⟨rfl, rfl, rfl, rfl, rfl⟩) zm
theorem zUH (l : List Tok) (ho : zAW l) : zTv l 73 14 (zGj l) := fun s c hp hz => zXp l ho s c hp hz
theorem fGp : Fld [71, 82, 79, 85, 80] [[71, 82, 79, 85, 80]] := zzF
theorem fGb : Fld [71, 82, 79, 85, 80, 32, 66, 89] [[71, 82, 79, 85, 80], [66, 89]] := zzF
theorem fOr : Fld [79, 82, 68, 69, 82] [[79, 82, 68, 69, 82]] := zzF
theorem fOb : Fld [79, 82, 68, 69, 82, 32, 66, 89] [[79, 82, 68, 69, 82], [66, 89]] := zzF
theorem fLi : Fld [76, 73, 77, 73, 84] [[76, 73, 77, 73, 84]] := zzF
theorem fVb : Fld [86, 65, 76, 85, 69, 83, 32, 40] [[86, 65, 76, 85, 69, 83], [40]] := zzF
theorem fWo : Fld [87, 73, 84, 72, 32, 79, 80, 84, 73, 79, 78] [[87, 73, 84, 72], [79, 80, 84, 73, 79, 78]] := zzF
theorem fWi : Fld [87, 73, 84, 72] [[87, 73, 84, 72]] := zzF
theorem fcr : Fld [67, 82, 69, 65, 84, 69] [[67, 82, 69, 65, 84, 69]] := zzF
theorem fis : Fld [73, 78, 83, 69, 82, 84] [[73, 78, 83, 69, 82, 84]] := zzF
theorem fup : Fld [85, 80, 68, 65, 84, 69] [[85, 80, 68, 65, 84, 69]] := zzF
theorem fdl : Fld [68, 69, 76, 69, 84, 69] [[68, 69, 76, 69, 84, 69]] := zzF
theorem fsl : Fld [83, 69, 76, 69, 67, 84] [[83, 69, 76, 69, 67, 84]] := zzF
theorem fgr : Fld [71, 82, 65, 78, 84] [[71, 82, 65, 78, 84]] := zzF
theorem frv : Fld [82, 69, 86, 79, 75, 69] [[82, 69, 86, 79, 75, 69]] := zzF
theorem zW6 (l : List Tok) (hm : l.length <= maxLen) : Wrd l [71, 82, 79, 85, 80] := zBe hm fGp rfl (by decide)
theorem zW4 (l : List Tok) (hm : l.length <= maxLen) : Wrd l [79, 82, 68, 69, 82] := zBe hm fOr rfl (by decide)
theorem zWD (l : List Tok) (hm : l.length <= maxLen) : Wrd l [76, 73, 77, 73, 84] := zBe hm fLi rfl (by decide)
theorem zVB (l : List Tok) (hm : l.length <= maxLen) : Wrd l [70, 82, 79, 77] := zBe hm zVs rfl (by decide)
theorem zVT (l : List Tok) (hm : l.length <= maxLen) (s : Spot) : Pst l s [71, 82, 79, 85, 80, 32, 66, 89] [zMY, zEx] := zBr l hm s _ [[71, 82, 79, 85, 80], [66, 89]] fGb (zPM (tk1 fGp (by decide)) (tk1 zVu (by decide))) (by decide)
theorem zVQ (l : List Tok) (hm : l.length <= maxLen) (s : Spot) : Pst l s [79, 82, 68, 69, 82, 32, 66, 89] [zMW, zEx] := zBr l hm s _ [[79, 82, 68, 69, 82], [66, 89]] fOb (zPM (tk1 fOr (by decide)) (tk1 zVu (by decide))) (by decide)
def mdS (l : List Tok) (s : Spot) (c : Cmd) : List (Nat × Blk) := [(900000, ⟨0, .box (.ds (bdC c)), 0⟩), (900001, ⟨0, .row 3 (c.cs.map zCm), 0⟩), (900002, ⟨0, .row 4 (c.ro.map zBw), 0⟩), (900003, ⟨0, .row 8 (c.ss.map zCe), 0⟩), (900004, ⟨0, .row 8 (c.q.is.map zBP), 0⟩), (900005, ⟨0, .row 2 (c.q.ss.map zC3), 0⟩), (2, ⟨0, .box (.es (eSp l s)), 0⟩), (4, ⟨0, .box (.ds [.nil, .e (eI 0), .e (eI 0)]), 0⟩), (5, ⟨0, .box (.ds [.ptr 900000 0 14]), 0⟩)]
theorem zXk (l : List Tok) (c : Cmd) (s : Spot) : ofF l false c s = zJp l c s := if_neg Bool.noConfusion
theorem zQc (l : List Tok) (ho : zAW l) (hL : l.length <= 100) (s : Spot) (c : Cmd) (hp : s.p <= l.length) (hz : Szs c 10) : FnH Tryz.prog 32 (gDc) (mdC c) [.agg (.es (eSp l s)), ptS] (.agg (.es (eSp l (zNd l c s).2))) (mdC (zNd l c s).1) := by
 refine zFH 65 Tryz.func32 fun X hnt => ?_
 unfold zNd
 have h1 := zOQ l ho hL s c 73 14 rfl (zGj l) (zUH l ho) (zHQ l) (zJV l) hp (hz.mono (by omega))
 have hf1 := (zCD (zHQ l) (l.length + 1) c s).2 hp
 have hz1 := zMe (l := l) (zJV l) hz s
 rcases hA : zBk l (zGj l) (l.length + 1) c s with ⟨c1, s1⟩
 rw [hA] at h1 hf1 hz1
 rw [zBt hA]
 clear hA hz hp
 dsimp only at h1 hf1 hz1
 have h2 := (zVB l ho.1).ps s1
 unfold Pst at h2
 have h2 : FnG Tryz.prog 23 [(3, spE)] [.agg (.es (eSp l s1)), .one (.e (eT [70, 82, 79, 77]))] (.agg (.es (eSp l (zAk l s1 [zB3])))) := h2
 have hf2 := (zAo l [zB3] s1).2 hf1
 rcases hA : zAk l s1 [zB3] with ⟨p2, e2⟩
 rw [zBt (show zTl l c1 s1 = (c1, ⟨p2, e2⟩) by unfold zTl; rw [hA])]
 rw [hA] at h2 hf2
 clear hA
 generalize (⟨p2, e2⟩ : Spot) = s2 at h2 hf2 ⊢
 have h3 := zRr l ho s2 c1
 rw [<-zXk] at h3
 have hf3 := (zDZ l false c1 s2).2 hf2
 have hz2 := zJP l false hz1 s2
 rcases hA : ofF l false c1 s2 with ⟨c3, s3⟩
 rw [hA] at h3 hf3 hz2
 rw [zBt hA]
 clear hA hz1 hf1
 dsimp only at h3 hf3 hz2
 repeat' first | refine zx ?_ | apply zn
 repeat' apply zn
 refine zAa (zzx hnt rfl ?_ (zA9 (us := []) [(900000, 900000), (900006, 5)] kr kr rfl rfl rfl rfl (h1) zg (fun _ => rfl) rfl rfl hnt rfl rfl zzi zzi (zzx hnt rfl ?_ (callV rfl rfl rfl rfl rfl rfl rfl hnt rfl (h2) (zzx hnt rfl ?_ (zA9 (us := []) [(900000, 900000)] kr kr rfl rfl rfl rfl (h3) zg (fun _ => rfl) rfl rfl hnt rfl rfl zzi zzi (zzx hnt rfl ?_ (Lex.nil _)))))))) ?_
 ·exact zzt
 ·exact zzt
 ·exact zzt
 ·exact zzt
 refine zAq (s' := St.of [(2, .one (.ptr 2 0 0)), (4, .one (.ptr 4 0 0)), (5, .one (.ptr 5 0 0)), (900000, .one (.ptr 900000 0 0)) , (1000000, .one (.eptr kwE)), (1000001, .one (.eptr agE)), (1000002, .one (.eptr rgE)), (1000003, .one (.eptr spE)), (1000004, .one (.eptr mkE)), (1000005, .one (.eptr fsE)), (1000006, .one (.eptr acE))] (mdS l s3 c3)) zle ?_
 clear h1 h2 h3 hf2
 have h1 := zS0 l ho s3 hf3
 have hf4 := (zH9 l s3).2 hf3
 unfold zIo at h1
 rcases hA : whF l s3 with ⟨x, s4⟩
 rw [hA] at h1 hf4
 rw [zBt (show zPL l c3 s3 = ({ c3 with q := { c3.q with w := x } }, s4) by unfold zPL; rw [hA])]
 clear hA hf3
 dsimp only at h1 hf4
 rw [zAp x] at h1
 have hz3 : Szs { c3 with q := { c3.q with w := x } } (10 + 1 + l.length) := ⟨hz2.cs, hz2.ro, hz2.ss, hz2.is, hz2.so⟩
 refine zVD h1 ?_
 refine zAq (s' := St.of [(2, .one (.ptr 2 0 0)), (4, .one (.ptr 4 0 0)), (5, .one (.ptr 5 0 0)), (900000, .one (.ptr 900000 0 0)) , (1000000, .one (.eptr kwE)), (1000001, .one (.eptr agE)), (1000002, .one (.eptr rgE)), (1000003, .one (.eptr spE)), (1000004, .one (.eptr mkE)), (1000005, .one (.eptr fsE)), (1000006, .one (.eptr acE))] (mdS l s4 ({ c3 with q := { c3.q with w := x } }))) zle ?_
 generalize hcc : { c3 with q := { c3.q with w := x } } = c4 at hz3 ⊢
 clear hcc h1 hz2
 have hsn := zAT l s4 [71, 82, 79, 85, 80] zMY [] (zW6 l ho.1).tk
 refine zV hsn ?_
 refine zBy (σ := Cmd × Spot) (fun x => St.of [(2, .one (.ptr 2 0 0)), (4, .one (.ptr 4 0 0)), (5, .one (.ptr 5 0 0)), (900000, .one (.ptr 900000 0 0)) , (1000000, .one (.eptr kwE)), (1000001, .one (.eptr agE)), (1000002, .one (.eptr rgE)), (1000003, .one (.eptr spE)), (1000004, .one (.eptr mkE)), (1000005, .one (.eptr fsE)), (1000006, .one (.eptr acE))] (mdS l x.2 x.1)) (fun x => zMp l c4 s4 = x) ?_ ?_
 ·cases hs : zAc l s4 zMY with
  | true =>
   have e0 : zMp l c4 s4 = _ := if_pos hs
   refine zc (fun hc => ?_) fun hc => ?_
   rotate_left
   ·exact absurd hc Bool.noConfusion
   have h2 := zVT l ho.1 s4
   unfold Pst at h2
   rw [zAQ, if_pos hs] at h2
   (try dsimp only at e0)
   rcases hA : zAk l ⟨s4.p + 1, s4.e⟩ [zEx] with ⟨p5, e5⟩
   rw [hA] at h2 e0
   clear hA
   generalize (⟨p5, e5⟩ : Spot) = s5 at h2 e0
   have h3 := zOE l ho s5 1 (by decide)
   rcases hA : zBl l s5 1 with ⟨t1, s6⟩
   rw [hA] at h3 e0
   clear hA
   (try dsimp only at h3 e0)
   repeat' apply zn
   refine zAa (zzx hnt rfl ?_ (callV rfl rfl rfl rfl rfl rfl rfl hnt rfl (h2) (zzx hnt rfl ?_ (callV rfl rfl rfl rfl rfl rfl rfl hnt rfl (h3) (zzx hnt rfl ?_ (Lex.nil _)))))) ?_
   ·exact zzt
   ·exact zzt
   ·exact zzt
   refine zxa ?_
   exact ⟨_, e0, zle⟩
  | false =>
   refine zc (fun hc => ?_) fun hc => ?_
   ·exact absurd hc Bool.noConfusion
   repeat' apply zn
   exact ⟨(c4, s4), if_neg (by rw [hs]; exact Bool.noConfusion), zle⟩
 rintro ⟨c5, s5⟩ hJ
 dsimp only at hJ ⊢
 rw [zBt hJ]
 have hf5 := (zMn l c4 s4).2 hf4
 have hz5 := zLc l hz3 s4
 rw [hJ] at hf5 hz5
 dsimp only at hf5 hz5
 clear hJ hz3 hf4 hsn
 have hsn := zAT l s5 [79, 82, 68, 69, 82] zMW [] (zW4 l ho.1).tk
 refine zV hsn ?_
 refine zBy (σ := Cmd × Spot) (fun x => St.of [(2, .one (.ptr 2 0 0)), (4, .one (.ptr 4 0 0)), (5, .one (.ptr 5 0 0)), (900000, .one (.ptr 900000 0 0)) , (1000000, .one (.eptr kwE)), (1000001, .one (.eptr agE)), (1000002, .one (.eptr rgE)), (1000003, .one (.eptr spE)), (1000004, .one (.eptr mkE)), (1000005, .one (.eptr fsE)), (1000006, .one (.eptr acE))] (mdS l x.2 x.1)) (fun x => zNe l c5 s5 = x) ?_ ?_
 ·cases hs : zAc l s5 zMW with
  | true =>
   have e0 : zNe l c5 s5 = _ := if_pos hs
   refine zc (fun hc => ?_) fun hc => ?_
   rotate_left
   ·exact absurd hc Bool.noConfusion
   have h2 := zVQ l ho.1 s5
   unfold Pst at h2
   rw [zAQ, if_pos hs] at h2
   (try dsimp only at e0)
   have hf6 := (zAo l [zEx] ⟨s5.p + 1, s5.e⟩).2 ((zAH hs).2 hf5)
   rcases hA : zAk l ⟨s5.p + 1, s5.e⟩ [zEx] with ⟨p6, e6⟩
   rw [hA] at h2 e0 hf6
   clear hA
   generalize (⟨p6, e6⟩ : Spot) = s6 at h2 e0 hf6
   have h3 := zOQ l ho hL s6 c5 74 14 rfl (zHk l) (zTT l ho) (zN6 l) (zN5 l) hf6 (hz5.mono (by omega))
   rcases hA : zBk l (zHk l) (l.length + 1) c5 s6 with ⟨c6, s7⟩
   rw [hA] at h3 e0
   clear hA
   (try dsimp only at h3 e0)
   repeat' apply zn
   refine zAa (zzx hnt rfl ?_ (callV rfl rfl rfl rfl rfl rfl rfl hnt rfl (h2) (zzx hnt rfl ?_ (zA9 (us := []) [(900000, 900000), (900006, 5)] kr kr rfl rfl rfl rfl (h3) zg (fun _ => rfl) rfl rfl hnt rfl rfl zzi zzi (zzx hnt rfl ?_ (Lex.nil _)))))) ?_
   ·exact zzt
   ·exact zzt
   ·exact zzt
   exact ⟨_, e0, zle⟩
  | false =>
   refine zc (fun hc => ?_) fun hc => ?_
   ·exact absurd hc Bool.noConfusion
   repeat' apply zn
   exact ⟨(c5, s5), if_neg (by rw [hs]; exact Bool.noConfusion), zle⟩
 rintro ⟨c6, s6⟩ hJ
 dsimp only at hJ ⊢
 rw [zBt hJ]
 clear hJ hz5 hf5 hsn
 have hsn := zAT l s6 [76, 73, 77, 73, 84] zKB [] (zWD l ho.1).tk
 refine zV hsn ?_
 refine zBy (σ := Cmd × Spot) (fun x => St.of [(2, .one (.ptr 2 0 0)), (4, .one (.ptr 4 0 0)), (5, .one (.ptr 5 0 0)), (900000, .one (.ptr 900000 0 0)) , (1000000, .one (.eptr kwE)), (1000001, .one (.eptr agE)), (1000002, .one (.eptr rgE)), (1000003, .one (.eptr spE)), (1000004, .one (.eptr mkE)), (1000005, .one (.eptr fsE)), (1000006, .one (.eptr acE))] (mdS l x.2 x.1)) (fun x => zNT l c6 s6 = x) ?_ ?_
 ·cases hs : zAc l s6 zKB with
  | true =>
   have e0 : zNT l c6 s6 = _ := if_pos hs
   refine zc (fun hc => ?_) fun hc => ?_
   rotate_left
   ·exact absurd hc Bool.noConfusion
   have h2 := (zWD l ho.1).ps s6
   unfold Pst at h2
   have h2 : FnG Tryz.prog 23 [(3, spE)] [.agg (.es (eSp l s6)), .one (.e (eT [76, 73, 77, 73, 84]))] (.agg (.es (eSp l (zAk l s6 [zKB])))) := h2
   rw [zAQ, if_pos hs] at h2
   have h2 : FnG Tryz.prog 23 [(3, spE)] [.agg (.es (eSp l s6)), .one (.e (eT [76, 73, 77, 73, 84]))] (.agg (.es (eSp l ⟨s6.p + 1, s6.e⟩))) := h2
   (try dsimp only at e0)
   generalize (⟨s6.p + 1, s6.e⟩ : Spot) = s7 at h2 e0
   have h3 := zOE l ho s7 3 (by decide)
   rcases hA : zBl l s7 3 with ⟨t1, s8⟩
   rw [hA] at h3 e0
   clear hA
   (try dsimp only at h3 e0)
   repeat' apply zn
   refine zAa (zzx hnt rfl ?_ (callV rfl rfl rfl rfl rfl rfl rfl hnt rfl (h2) (zzx hnt rfl ?_ (callV rfl rfl rfl rfl rfl rfl rfl hnt rfl (h3) (zzx hnt rfl ?_ (Lex.nil _)))))) ?_
   ·exact zzt
   ·exact zzt
   ·exact zzt
   refine zxa ?_
   exact ⟨_, e0, zle⟩
  | false =>
   refine zc (fun hc => ?_) fun hc => ?_
   ·exact absurd hc Bool.noConfusion
   repeat' apply zn
   exact ⟨(c6, s6), if_neg (by rw [hs]; exact Bool.noConfusion), zle⟩
 rintro ⟨c7, s7⟩ hJ
 dsimp only at hJ ⊢
 rw [hJ]
 repeat' first | refine zx ?_ | apply zn
 exact zAb ⟨.inr rfl, _, _, _, rfl, zzp, rfl, fun X => zle⟩
end Go.Proofs.YtcdifgacoleckaaGreatDoor
