/- SHA-256 in plain words: a block, blocks, a stream. No condition. -/
import Derived.Test.YtphaholcndhonaaDoorAbW
namespace Go.Proofs.YtphaholcndhonaaDoor.Ab
open Go Go.RowKit
abbrev W := BitVec 32
def rotr (x : W) (n : Nat) : W := x >>> n ||| x <<< (32 - n)
def sg0 (x : W) : W := rotr x 7 ^^^ rotr x 18 ^^^ x >>> 3
def sg1 (x : W) : W := rotr x 17 ^^^ rotr x 19 ^^^ x >>> 10
def Sg0 (x : W) : W := rotr x 2 ^^^ rotr x 13 ^^^ rotr x 22
def Sg1 (x : W) : W := rotr x 6 ^^^ rotr x 11 ^^^ rotr x 25
def chW (e f g : W) : W := (e &&& f) ^^^ (~~~e &&& g)
def majW (a b c : W) : W := (a &&& b) ^^^ (a &&& c) ^^^ (b &&& c)
theorem ch_or (e f g : W) : (e &&& f) ||| (~~~e &&& g) = chW e f g := by
  unfold chW
  apply BitVec.eq_of_getLsbD_eq
  intro i hi
  simp
  cases e.getLsbD i <;> cases f.getLsbD i <;> cases g.getLsbD i <;> simp [hi]
theorem maj_or (a b c : W) : ((a &&& b) ||| (a &&& c)) ||| (b &&& c) = majW a b c := by
  unfold majW
  apply BitVec.eq_of_getLsbD_eq
  intro i hi
  simp
  cases a.getLsbD i <;> cases b.getLsbD i <;> cases c.getLsbD i <;> simp
structure H8 where
  a : W
  b : W
  c : W
  d : W
  e : W
  f : W
  g : W
  h : W
def H8.l (v : H8) : List W := [v.a, v.b, v.c, v.d, v.e, v.f, v.g, v.h]
def H8.add (v u : H8) : H8 := ⟨v.a + u.a, v.b + u.b, v.c + u.c, v.d + u.d, v.e + u.e, v.f + u.f, v.g + u.g, v.h + u.h⟩
def kW : List W := [
    0x428a2f98, 0x71374491, 0xb5c0fbcf, 0xe9b5dba5, 0x3956c25b, 0x59f111f1, 0x923f82a4, 0xab1c5ed5,
    0xd807aa98, 0x12835b01, 0x243185be, 0x550c7dc3, 0x72be5d74, 0x80deb1fe, 0x9bdc06a7, 0xc19bf174,
    0xe49b69c1, 0xefbe4786, 0x0fc19dc6, 0x240ca1cc, 0x2de92c6f, 0x4a7484aa, 0x5cb0a9dc, 0x76f988da,
    0x983e5152, 0xa831c66d, 0xb00327c8, 0xbf597fc7, 0xc6e00bf3, 0xd5a79147, 0x06ca6351, 0x14292967,
    0x27b70a85, 0x2e1b2138, 0x4d2c6dfc, 0x53380d13, 0x650a7354, 0x766a0abb, 0x81c2c92e, 0x92722c85,
    0xa2bfe8a1, 0xa81a664b, 0xc24b8b70, 0xc76c51a3, 0xd192e819, 0xd6990624, 0xf40e3585, 0x106aa070,
    0x19a4c116, 0x1e376c08, 0x2748774c, 0x34b0bcb5, 0x391c0cb3, 0x4ed8aa4a, 0x5b9cca4f, 0x682e6ff3,
    0x748f82ee, 0x78a5636f, 0x84c87814, 0x8cc70208, 0x90befffa, 0xa4506ceb, 0xbef9a3f7, 0xc67178f2]
def h0W : H8 := ⟨0x6a09e667, 0xbb67ae85, 0x3c6ef372, 0xa54ff53a, 0x510e527f, 0x9b05688c, 0x1f83d9ab, 0x5be0cd19⟩
def wordW (x y z u : UInt8) : W := BitVec.ofNat 32 (x.toNat * 16777216 + y.toNat * 65536 + z.toNat * 256 + u.toNat)
def word4 (b : List UInt8) (i : Nat) : W := wordW (b.getD (4 * i) 0) (b.getD (4 * i + 1) 0) (b.getD (4 * i + 2) 0) (b.getD (4 * i + 3) 0)
def words (b : List UInt8) (n : Nat) : List W := (List.range n).map (word4 b)
def nextW (w : List W) : W := w.getD (w.length - 16) 0 + sg0 (w.getD (w.length - 15) 0) + w.getD (w.length - 7) 0 + sg1 (w.getD (w.length - 2) 0)
/-- the schedule's first words -/
def sch (b : List UInt8) : Nat → List W
  | 0 => words b 16
  | n + 1 => sch b n ++ [nextW (sch b n)]
theorem sch_len (b : List UInt8) : ∀ n, (sch b n).length = 16 + n
  | 0 => by simp [sch, words]
  | n + 1 => by simp [sch, sch_len b n]; omega
def roundW (v : H8) (k w : W) : H8 :=
  ⟨v.h + Sg1 v.e + chW v.e v.f v.g + k + w + (Sg0 v.a + majW v.a v.b v.c), v.a, v.b, v.c, v.d + (v.h + Sg1 v.e + chW v.e v.f v.g + k + w), v.e, v.f, v.g⟩
def roundsW (h : H8) (w : List W) : Nat → H8
  | 0 => h
  | n + 1 => roundW (roundsW h w n) (kW.getD n 0) (w.getD n 0)
/-- one block -/
def comp (h : H8) (b : List UInt8) : H8 := (roundsW h (sch b 48) 64).add h
/-- whole blocks of bytes, what is left over falls away -/
def blks (h : H8) (b : List UInt8) : H8 := if b.length < 64 then h else blks (comp h (b.take 64)) (b.drop 64)
termination_by b.length
decreasing_by simp; omega
theorem blks_few (h : H8) (b : List UInt8) (hb : b.length < 64) : blks h b = h := by rw [blks, if_pos hb]
theorem blks_one (h : H8) (b c : List UInt8) (hb : b.length = 64) : blks h (b ++ c) = blks (comp h b) c := by
  rw [blks, if_neg (by simp; omega), List.take_left' hb, List.drop_left' hb]
/-- a stream: H, the bytes held, and how many came -/
structure Sm where
  H : H8
  held : List UInt8
  len : Int
def Sm.one (s : Sm) (c : UInt8) : Sm := if s.held.length = 63 then ⟨comp s.H (s.held ++ [c]), [], s.len⟩ else ⟨s.H, s.held ++ [c], s.len⟩
def Sm.fold (s : Sm) : List UInt8 → Sm
  | [] => s
  | c :: l => (s.one c).fold l
theorem fold_append (s : Sm) (l r : List UInt8) : s.fold (l ++ r) = (s.fold l).fold r := by
  induction l generalizing s with
  | nil => rfl
  | cons c l ih => exact ih _
theorem fold_len (s : Sm) (l : List UInt8) : (s.fold l).len = s.len := by
  induction l generalizing s with
  | nil => rfl
  | cons c l ih =>
    rw [Sm.fold, ih]
    unfold Sm.one
    split <;> rfl
/-- what a stream holds behind more bytes: whole blocks are gone into H -/
theorem fold_law (s : Sm) (l : List UInt8) (hs : s.held.length < 64) : (s.fold l).H = blks s.H (s.held ++ l) ∧ (s.fold l).held = (s.held ++ l).drop ((s.held ++ l).length - (s.held ++ l).length % 64) ∧ (s.fold l).held.length < 64 := by
  induction l generalizing s with
  | nil =>
    refine ⟨?_, ?_, hs⟩
    · rw [List.append_nil, blks_few _ _ hs]; rfl
    · rw [List.append_nil, Nat.mod_eq_of_lt hs, Nat.sub_self]; rfl
  | cons c l ih =>
    rw [Sm.fold]
    unfold Sm.one
    split
    · rename_i h63
      obtain ⟨h1, h2, h3⟩ := ih ⟨comp s.H (s.held ++ [c]), [], s.len⟩ (by simp)
      have e : s.held ++ c :: l = (s.held ++ [c]) ++ l := by simp
      refine ⟨?_, ?_, h3⟩
      · dsimp only at h1
        rw [List.nil_append] at h1
        rw [h1, e, blks_one _ _ _ (by rw [List.length_append, h63]; rfl)]
      · dsimp only at h2
        rw [List.nil_append] at h2
        rw [h2, e]
        have hl : (s.held ++ [c]).length = 64 := by rw [List.length_append, h63]; rfl
        rw [List.drop_append, List.length_append, hl]
        have e2 : (64 + l.length) - (64 + l.length) % 64 = 64 + (l.length - l.length % 64) := by omega
        rw [e2, List.drop_of_length_le (l := s.held ++ [c]) (by rw [hl]; omega), List.nil_append, Nat.add_sub_cancel_left]
    · obtain ⟨h1, h2, h3⟩ := ih ⟨s.H, s.held ++ [c], s.len⟩ (by simp; omega)
      have e : s.held ++ c :: l = (s.held ++ [c]) ++ l := by simp
      exact ⟨by rw [h1, e], by rw [h2, e], h3⟩
end Go.Proofs.YtphaholcndhonaaDoor.Ab
