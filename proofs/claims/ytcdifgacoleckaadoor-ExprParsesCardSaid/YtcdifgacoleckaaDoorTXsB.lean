/- Expressions as tokens: expr.show. No condition. -/
import Derived.Test.YtcdifgacoleckaaDoorTXsA
namespace Go.Proofs.YtcdifgacoleckaaDoor
open Go Go.RowKit Go.Proofs.YtcdifgacoleckaaDoor.Ab
set_option linter.unusedSimpArgs false
set_option linter.unusedVariables false

def eTks (l : List Tok) : E := .sl (l.map eTok)
def msP (ac : List Tok) : List (Nat × Blk) := [(900000, ⟨0, .box (.ds [.own 900001 0]), 0⟩), (900001, ⟨0, .row 4 (ac.map eTok), 0⟩)]
/-- in brackets, where what binds at least so closely may stand -/
def brk (least : Int) (p : Int × List Tok) : List Tok := if lvF p.1 < least then sgT [40] :: p.2 ++ [sgT [41]] else p.2
def left (op : Int) : Int := if lvF op = 4 then 5 else lvF op
def shJ (op : Int) (v : Val) (n : Byt) (ks : List (Int × List Tok)) : List Tok :=
  if op = 1 then [ltT v] else if op = 2 then [⟨1, n, 0, 0⟩]
  else if op = 3 then sgT [45] :: brk 8 (ks.getD 0 (0, []))
  else if op = 4 then wdT [78, 79, 84] :: brk 3 (ks.getD 0 (0, []))
  else if op = 17 then brk 5 (ks.getD 0 (0, [])) ++ [wdT [73, 83], wdT [78, 85, 76, 76]]
  else if op = 18 then [wdT [76, 69, 78, 71, 84, 72], sgT [40]] ++ (ks.getD 0 (0, [])).2 ++ [sgT [41]]
  else if op = 20 then [wdT [67, 79, 65, 76, 69, 83, 67, 69], sgT [40]] ++ (ks.getD 0 (0, [])).2 ++ [sgT [44]] ++ (ks.getD 1 (0, [])).2 ++ [sgT [41]]
  else brk (left op) (ks.getD 0 (0, [])) ++ [mkS op] ++ brk (lvF op + 1) (ks.getD 1 (0, []))
mutual
def shX : Ex → List Tok
  | .mk op v n ar => shJ op v n (shL ar)
def shL : List Ex → List (Int × List Tok)
  | [] => []
  | .mk op v n ar :: r => (op, shX (.mk op v n ar)) :: shL r
end
theorem shX_eq (x : Ex) : shX x = shJ x.op x.v x.n (shL x.ar) := by cases x; rw [shX]; rfl
theorem shL_map : ∀ l : List Ex, shL l = l.map fun x => (x.op, shX x)
  | [] => rfl
  | .mk op v n ar :: r => by rw [shL, shL_map r]; rfl
/-- an expression's tokens where one of at least a level may stand -/
def shF (x : Ex) (least : Int) : List Tok := brk least (x.op, shX x)
theorem brk_len (least : Int) (p : Int × List Tok) : (brk least p).length ≤ p.2.length + 2 := by
  unfold brk
  split
  · simp only [List.length_append, List.length_cons, List.length_nil]; omega
  · omega
theorem shJ_len (op : Int) (v : Val) (n : Byt) (ks : List (Int × List Tok)) : (shJ op v n ks).length ≤ (ks.getD 0 (0, [])).2.length + (ks.getD 1 (0, [])).2.length + 5 := by
  have b1 := brk_len 8 (ks.getD 0 (0, []))
  have b2 := brk_len 3 (ks.getD 0 (0, []))
  have b3 := brk_len 5 (ks.getD 0 (0, []))
  have b4 := brk_len (left op) (ks.getD 0 (0, []))
  have b5 := brk_len (lvF op + 1) (ks.getD 1 (0, []))
  unfold shJ
  repeat' split
  all_goals simp only [List.length_append, List.length_cons, List.length_nil]
  all_goals omega
theorem shX_len : ∀ (m : Nat) (x : Ex), nodes x ≤ m → x.ar.length ≤ 2 ∨ True → (shX x).length ≤ 5 * nodes x
  | 0, x, h, _ => absurd h (by have := nodes_pos x; omega)
  | m + 1, .mk op v n ar, h, _ => by
    have hn := nodes_eq (.mk op v n ar)
    have hj := shJ_len op v n (shL ar)
    rw [shX]
    have hn : nodes (.mk op v n ar) = 1 + nodesL ar := hn
    have hkid : ∀ a ∈ ar, (shX a).length ≤ 5 * nodes a := fun a ha => shX_len m a (kid_nodes h ha) (.inr trivial)
    rw [shL_map] at hj
    rcases ar with _ | ⟨a, _ | ⟨b, r⟩⟩
    · have hj : _ ≤ 0 + 0 + 5 := hj
      rw [shL_map]
      omega
    · have ha := hkid a (by simp)
      have hj : _ ≤ (shX a).length + 0 + 5 := hj
      have : nodesL [a] = nodes a + 0 := rfl
      rw [shL_map]
      omega
    · have ha := hkid a (by simp)
      have hb := hkid b (by simp)
      have hj : _ ≤ (shX a).length + (shX b).length + 5 := hj
      have : nodesL (a :: b :: r) = nodes a + (nodes b + nodesL r) := rfl
      rw [shL_map]
      omega
theorem ver_upd1 {m : Mem} {id : Nat} {b : Blk} (h : (m id).map Blk.ver = some b.ver) : ∀ i, verOf (updM m [(id, b)]) i = verOf m i := fun i => by
  show verOf (upd m id (some b)) i = _
  unfold verOf
  by_cases hi : i = id
  · subst hi
    rw [upd_same]
    cases hm : m i with
    | none => rw [hm] at h; cases h
    | some b0 => rw [hm] at h; exact (Option.some.inj h).symm
  · rw [upd_ne _ _ hi]
theorem node_ok2 {x : Ex} (h : nodeF x = 0) : 1 ≤ x.op ∧ x.op ≤ 20 ∧ (x.ar.length : Int) = wantF x.op ∧ (x.op = 1 → chk x.v = 0 ∧ 0 ≤ x.v.i) := by
  have hr : ¬ (x.op < 1 ∨ 20 < x.op) := fun e => by
    unfold nodeF at h
    rw [if_pos e] at h
    cases h
  obtain ⟨k1, _, _, _, k5⟩ := (nodeF_zero (by omega) (by omega)).2.1 h
  exact ⟨by omega, by omega, k1, k5⟩
theorem nd_zero2 {x : Ex} (h : ndF x = 0) : nodeF x = 0 ∧ ∀ a ∈ x.ar, ndF a = 0 := by
  rw [ndF_eq] at h
  split at h
  · contradiction
  · rename_i hn
    refine ⟨Classical.not_not.1 hn, ?_⟩
    have key : ∀ l : List Ex, ndL l = 0 → ∀ a ∈ l, ndF a = 0 := by
      intro l
      induction l with
      | nil => intro _ a ha; cases ha
      | cons b r ih =>
        intro hl a ha
        rw [ndL] at hl
        split at hl
        · contradiction
        · rename_i hb
          rcases List.mem_cons.1 ha with rfl | ha
          · exact Classical.not_not.1 hb
          · exact ih hl a ha
    exact key x.ar h
theorem argsData1 {m : Mem} {ρ : Rn} {dom : Nat → Bool} {d x : D} {ds bs : List D} {p : Nat × Blk} (h : dataD m d = some (x, [p])) (k : ArgsH m ρ dom ds bs []) : ArgsH m ρ dom (d :: ds) (x :: bs) [p] := .data h k
theorem eEx_mk (op : Int) (v : Val) (n : Byt) (ar : List Ex) : eEx (.mk op v n ar) = [eI op, eI v.k, eI v.i, eQ v.b, eT v.t, eT n, .sl (ar.map eEx)] := by rw [eEx, eExs_map]
end Go.Proofs.YtcdifgacoleckaaDoor
