/- The law ExprShows's own function. No condition. -/
import Derived.Test.YtjabmeffgbaglaaDoorTXsP
namespace Go.Proofs.YtjabmeffgbaglaaDoor
open Go Go.RowKit Go.Proofs.YtjabmeffgbaglaaDoor.Ab
set_option linter.unusedSimpArgs false
set_option linter.unusedVariables false
def tokN : Tok := ⟨0, [], 0, 0⟩
theorem tkGetN (l : List Tok) {i : Nat} (h : i < l.length) : (l.map eTok).getD i [] = eTok (l.getD i tokN) := by
 rw [List.getD_eq_getElem?_getD, List.getElem?_map, List.getElem?_eq_getElem h, List.getD_eq_getElem?_getD, List.getElem?_eq_getElem h]
 rfl
set_option maxRecDepth 10000 in
set_option maxHeartbeats 2000000 in
theorem sameTokens_fn (l : List Tok) (hl0 : l.length ≤ (1000000 + 0)) : FnD Tryd.prog 6 [.one (.e (eTks l)), .one (.e (eTks l))] (.v (.bool true)) := by
 refine fn_intro (T := tab) tOk Tryd.func6 rfl (by kernel_rfl) (by simp [Tryd.ntmps6]) ?_
 intro X hX
 have hnt : X.nt = 26 := hX
 clear hX
 have hml : (l.map eTok).length = l.length := List.length_map ..
 repeat' first | refine zzs ?_ | refine zzr hnt rfl ?_ ?_ | refine zzd hnt rfl ?_ ?_ | refine zzb ?_ | refine zzk ?_
 ·exact zzt
 ·exact zzt
 repeat' first | refine zzs ?_ | refine zzb ?_ | refine zzk ?_
 refine tr_cond rfl (fun hc => ?_) (fun hc => ?_)
 ·simp only [zz1, zz2, zz3, zz4, zz5, zz6, zz7, zz8] at hc
  exact (hc trivial).elim
 simp only [zz1, zz2, zz3, zz4, zz5, zz6, zz7, zz8] at hc
 repeat' first | refine zzs ?_ | refine zzr hnt rfl ?_ ?_ | refine zzd hnt rfl ?_ ?_ | refine zzb ?_ | refine zzk ?_
 ·exact zzt
 repeat' first | refine zzs ?_ | refine zzb ?_ | refine zzk ?_
 refine tr_loop (σ := Nat) (fun i => St.of [(0, .one (.e (eTks l))), (1, .one (.e (eTks l))), (12, .one (.e (eI ((l.map eTok).length : Int)))), (13, .one (.e (eI (i : Int))))] []) (fun i => i ≤ l.length) (fun i => l.length - i) (0) (le_of (ad := []) ⟨zzl, zzl, zzl, zzl, trivial⟩ trivial) (Nat.zero_le _) ?_
 rintro i il
 repeat' first | refine zzs ?_ | refine zzr hnt rfl ?_ ?_ | refine zzd hnt rfl ?_ ?_ | refine zzb ?_ | refine zzk ?_
 ·exact zzt
 repeat' first | refine zzs ?_ | refine zzb ?_ | refine zzk ?_
 refine tr_cond rfl (fun hc => ?_) (fun hc => ?_)
 ·simp only [zz1, zz2, zz3, zz4, zz5, zz6, zz7, zz8] at hc
  (try simp only [hml] at hc)
  (try simp only [zz1, zz2, zz3, zz4, zz5, zz6, zz7, zz8] at hc)
  have hlt : i < l.length := by omega
  have hg := tkGetN l hlt
  have e1 := eqT1 (l.getD i tokN) (l.getD i tokN)
  repeat' first | refine zzs ?_ | refine zzb ?_ | refine zzk ?_
  first | refine zzr hnt rfl ?_ ?_ | refine zzd hnt rfl ?_ ?_
  ·exact zza
  repeat' first | refine zzs ?_ | refine zzb ?_ | refine zzk ?_
  first | refine zzr hnt rfl ?_ ?_ | refine zzd hnt rfl ?_ ?_
  ·rw [Int.toNat_natCast, hg, hml]
   exact zza
  rw [Int.toNat_natCast, hg]
  generalize l.getD i tokN = v at *
  repeat' first | refine zzs ?_ | refine zzb ?_ | refine zzk ?_
  refine tr_cond rfl (fun hc => ?_) (fun hc => ?_)
  ·have hc : (!(eqD tab 9 50 (.agg (.es (List.take 4 (List.drop 0 (eTok v))))) (.agg (.es (List.take 4 (List.drop 0 (eTok v)))))).2) = true := hc
   rw [eqT2, decide_eq_true ⟨rfl, rfl, rfl, rfl⟩] at hc
   exact absurd hc (by decide)
  repeat' first | refine zzs ?_ | refine zzr hnt rfl ?_ ?_ | refine zzd hnt rfl ?_ ?_ | refine zzb ?_ | refine zzk ?_
  ·exact zzt
  refine ⟨i + 1, (by omega), by omega, le_of (ad := []) ⟨zzl, zzl, zzl, zzl, trivial⟩ trivial⟩
 simp only [zz1, zz2, zz3, zz4, zz5, zz6, zz7, zz8] at hc
 (try simp only [hml] at hc)
 (try simp only [zz1, zz2, zz3, zz4, zz5, zz6, zz7, zz8] at hc)
 refine tr_exit ?_
 repeat' first | refine zzs ?_ | refine zzr hnt rfl ?_ ?_ | refine zzd hnt rfl ?_ ?_ | refine zzb ?_ | refine zzk ?_
 ·exact zzt
 exact tr_ret ⟨.inr rfl, _, _, rfl, trivial, rfl⟩
end Go.Proofs.YtjabmeffgbaglaaDoor
