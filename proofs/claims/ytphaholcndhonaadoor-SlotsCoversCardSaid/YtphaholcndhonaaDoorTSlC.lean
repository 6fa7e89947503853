/- A slot under a root: its path checked. No condition. -/
import Derived.Test.YtphaholcndhonaaDoorTSlR
import Derived.Test.YtphaholcndhonaaDoorAbD
namespace Go.Proofs.YtphaholcndhonaaDoor
open Go Go.RowKit Go.Proofs.YtphaholcndhonaaDoor.Ab

def stepN (mode : Int) (b : Bool) (d p : List UInt8) : List UInt8 × Int := if b then ndF mode p d else ndF mode d p
def stepO (mode : Int) (b : Bool) (d p : List UInt8) : Option (List UInt8) := if (stepN mode b d p).2 = 0 then some (stepN mode b d p).1 else none
/-- from the bottom up -/
def upP (mode : Int) : List (List UInt8) → Nat → Nat → List UInt8 → Option (List UInt8)
  | [], 0, _, d => some d
  | [], _ + 1, _, _ => none
  | _ :: _, 0, _, _ => none
  | p :: ps, k + 1, i, d => (stepO mode (decide (i % 2 = 1)) d p).bind fun d' => upP mode ps k (i / 2) d'
/-- from the top down -/
def dnP (mode : Int) : Nat → Nat → List UInt8 → List (List UInt8) → Option (List UInt8)
  | 0, _, d, path => if path = [] then some d else none
  | k + 1, i, d, path => match path.getLast? with
    | none => none
    | some p => (dnP mode k (i % 2 ^ k) d path.dropLast).bind fun d' => stepO mode (decide (2 ^ k ≤ i)) d' p
theorem up_snoc (mode : Int) (p : List UInt8) : ∀ (ps : List (List UInt8)) (k i : Nat) (d : List UInt8), i < 2 ^ (k + 1) → upP mode (ps ++ [p]) (k + 1) i d = (upP mode ps k (i % 2 ^ k) d).bind fun d' => stepO mode (decide (2 ^ k ≤ i)) d' p
  | [], 0, i, d, hi => by
    have : decide (i % 2 = 1) = decide (2 ^ 0 ≤ i) := by
      rw [Nat.pow_zero]
      simp at hi
      congr 1
      simp
      omega
    show (stepO mode (decide (i % 2 = 1)) d p).bind (fun d' => upP mode [] 0 (i / 2) d') = stepO mode (decide (2 ^ 0 ≤ i)) d p
    rw [this]
    cases stepO mode (decide (2 ^ 0 ≤ i)) d p <;> rfl
  | [], k + 1, i, d, hi => by
    show (stepO mode (decide (i % 2 = 1)) d p).bind (fun d' => upP mode [] (k + 1) (i / 2) d') = none
    cases stepO mode (decide (i % 2 = 1)) d p <;> rfl
  | q :: qs, 0, i, d, hi => by
    show (stepO mode (decide (i % 2 = 1)) d q).bind (fun d' => upP mode (qs ++ [p]) 0 (i / 2) d') = none
    cases stepO mode (decide (i % 2 = 1)) d q with
    | none => rfl
    | some d' => cases qs <;> rfl
  | q :: qs, k + 1, i, d, hi => by
    have e1 : i % 2 ^ (k + 1) % 2 = i % 2 := Nat.mod_mod_of_dvd _ ⟨2 ^ k, by rw [Nat.pow_succ, Nat.mul_comm]⟩
    have e2 : i % 2 ^ (k + 1) / 2 = i / 2 % 2 ^ k := by rw [Nat.pow_succ, Nat.mul_comm, Nat.mod_mul_right_div_self]
    have e3 : decide (2 ^ k ≤ i / 2) = decide (2 ^ (k + 1) ≤ i) := by
      congr 1
      rw [Nat.pow_succ, Nat.le_div_iff_mul_le (by decide)]
    show (stepO mode (decide (i % 2 = 1)) d q).bind (fun d' => upP mode (qs ++ [p]) (k + 1) (i / 2) d') = (((stepO mode (decide (i % 2 ^ (k + 1) % 2 = 1)) d q).bind fun d' => upP mode qs k (i % 2 ^ (k + 1) / 2) d').bind fun d' => stepO mode (decide (2 ^ (k + 1) ≤ i)) d' p)
    rw [e1, e2]
    cases stepO mode (decide (i % 2 = 1)) d q with
    | none => rfl
    | some d' =>
      show upP mode (qs ++ [p]) (k + 1) (i / 2) d' = _
      rw [up_snoc mode p qs k (i / 2) d' (by rw [Nat.pow_succ] at hi; omega), e3]
      rfl
theorem up_dn (mode : Int) : ∀ (k i : Nat) (d : List UInt8) (path : List (List UInt8)), i < 2 ^ k → upP mode path k i d = dnP mode k i d path
  | 0, i, d, path, _ => by cases path <;> rfl
  | k + 1, i, d, path, hi => by
    rcases List.eq_nil_or_concat path with rfl | ⟨ps, p, rfl⟩
    · rfl
    · rw [List.concat_eq_append, up_snoc mode p ps k i d hi, dnP, List.getLast?_concat, List.dropLast_concat, up_dn mode k _ d ps (Nat.mod_lt _ (Nat.two_pow_pos k))]
def endC (o : Option (List UInt8)) (root : List UInt8) : Int := match o with
  | none => 10
  | some d => if d = root then 0 else 10
def pcF (mode : Int) (root : List UInt8) (n i : Int) (s : SlotT) (path : List (List UInt8)) : Int :=
  if mode ≠ 1 ∧ mode ≠ 2 then 2 else if powF n = false then 1 else if i < 0 ∨ n ≤ i then 6 else if (lfX mode s).2 ≠ 0 then (lfX mode s).2 else endC (upP mode path (Nat.log2 n.toNat) i.toNat (lfX mode s).1) root
theorem orDn (i n : Int) : (bif decide (i < 0) then true else decide (n ≤ i)) = decide (i < 0 ∨ n ≤ i) := by
  by_cases h : i < 0 <;> simp [h]
theorem strEq_B (a b : List UInt8) : strEq (bytesOf (eCells a)) (bytesOf (eCells b)) = decide (a = b) := by
  rw [strB_of, strB_of, strEq]
  have h (l : List UInt8) : (strB l).toList = l := by
    show (⟨l.toArray⟩ : ByteArray).toList = l
    simp
  rw [h, h, Bool.eq_iff_iff]
  simp
theorem two_tdiv (k : Nat) (h : k ≤ 6) : IntKind.i64.wrap (((2 ^ (k + 1) : Nat) : Int).tdiv 2) = ((2 ^ k : Nat) : Int) := by
  rw [show ((2 ^ (k + 1) : Nat) : Int).tdiv 2 = ((2 ^ (k + 1) / 2 : Nat) : Int) from rfl, Nat.pow_succ, Nat.mul_div_cancel _ (by decide)]
  have : 2 ^ k ≤ 2 ^ 6 := Nat.pow_le_pow_right (by decide) h
  generalize 2 ^ k = q at *
  exact wrap64_id (by omega) (by omega)
theorem half_tdiv (i : Nat) (h : i ≤ 1000) : IntKind.i64.wrap ((i : Int).tdiv 2) = ((i / 2 : Nat) : Int) := by
  rw [show (i : Int).tdiv 2 = ((i / 2 : Nat) : Int) from rfl, wrap64_id (by omega) (by omega)]
def rBB (r : List UInt8 × Bool) : D := .tup [(false, .es [eBytes r.1]), (false, .es [.v (.bool r.2)])]
def obF (r : List UInt8 × Bool) : Option (List UInt8) := bif r.2 then some r.1 else none
def climbF (mode : Int) : Nat → Nat → List UInt8 → List (List UInt8) → List UInt8 × Bool
  | 0, _, d, path => (d, decide (path = []))
  | k + 1, i, d, path => match path.getLast? with
    | none => ([], false)
    | some p => if (climbF mode k (i % 2 ^ k) d path.dropLast).2 = false then ([], false) else
      ((stepN mode (decide (2 ^ k ≤ i)) (climbF mode k (i % 2 ^ k) d path.dropLast).1 p).1, decide ((stepN mode (decide (2 ^ k ≤ i)) (climbF mode k (i % 2 ^ k) d path.dropLast).1 p).2 = 0))
theorem climb_dn (mode : Int) : ∀ (k i : Nat) (d : List UInt8) (path : List (List UInt8)), obF (climbF mode k i d path) = dnP mode k i d path
  | 0, i, d, path => by
    show (bif decide (path = []) then some d else none) = if path = [] then some d else none
    by_cases h : path = [] <;> simp [h]
  | k + 1, i, d, path => by
    rw [climbF, dnP]
    cases path.getLast? with
    | none => rfl
    | some p =>
      dsimp only
      rw [← climb_dn mode k (i % 2 ^ k) d path.dropLast]
      generalize climbF mode k (i % 2 ^ k) d path.dropLast = r
      obtain ⟨b, ok⟩ := r
      cases ok with
      | false => rfl
      | true =>
        rw [if_neg (by simp)]
        show obF _ = stepO mode (decide (2 ^ k ≤ i)) b p
        unfold stepO
        generalize stepN mode (decide (2 ^ k ≤ i)) b p = q
        obtain ⟨c, e⟩ := q
        by_cases he : e = 0 <;> simp [obF, he]
theorem lsLen (path : List (List UInt8)) : (path.map fun p => [eBytes p]).length = path.length := List.length_map ..
theorem lsOne (path : List (List UInt8)) : ∀ cs ∈ path.map (fun p => [eBytes p]), cs.length = 1 := fun cs h => by
  obtain ⟨x, _, rfl⟩ := List.mem_map.1 h
  rfl
theorem strNe_B (a b : List UInt8) : (!strEq (bytesOf (eCells a)) (bytesOf (eCells b))) = decide (a ≠ b) := by
  rw [strEq_B]
  by_cases h : a = b <;> simp [h]
end Go.Proofs.YtphaholcndhonaaDoor
