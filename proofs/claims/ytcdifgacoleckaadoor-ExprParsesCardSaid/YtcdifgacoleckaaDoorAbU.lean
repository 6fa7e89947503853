/- Short words for the steps of walks (a claim's texts have a bound on their bytes). No condition. -/
import Derived.Test.YtcdifgacoleckaaDoorAbTab
import Derived.Test.YtcdifgacoleckaaDoorAbD
import Derived.Test.YtcdifgacoleckaaDoorAbE
namespace Go.Proofs.YtcdifgacoleckaaDoor
open Go Go.RowKit Go.Proofs.YtcdifgacoleckaaDoor.Ab

theorem zzt {p : Prop} (h : p := by (dsimp only [AllP]; (repeat' first | exact trivial | assumption | exact Nat.le_of_ble_eq_true rfl | apply And.intro | decide | intro _ | exact rfl))) : p := h
theorem zza {p : Prop} (h : p := by (dsimp only [AllP]; (repeat' first | exact trivial | assumption | exact Nat.le_of_ble_eq_true rfl | apply And.intro | exact eCells_len1 _ _ ‹_› | exact eCells_isByte _ _ ‹_› | (intro hh_; have hg_ := hh_; (try simp only [condT_ff, condF_tt, notE_t, notE_f, Bool.and_eq_true, ne_eq, decide_eq_true_eq, decide_eq_false_iff_not] at hg_)) | intro _ | exact rfl | omega))) : p := h
theorem zzp {p : Prop} (h : p := by (repeat' first | exact trivial | exact Nat.le_of_ble_eq_true rfl | apply And.intro)) : p := h
theorem zzi {p : Prop} (h : p := by (repeat' first | exact trivial | rfl | apply And.intro)) : p := h
theorem zzl {p : Prop} (h : p := by first | exact trivial | rfl | exact ⟨rfl, rfl⟩ | exact ⟨rfl, rfl, rfl⟩ | exact ⟨rfl, rfl, rfl, rfl⟩ | exact ⟨rfl, rfl, rfl, rfl, rfl⟩ | exact congrArg (fun z : Int => E.v (.int .i64 z)) (wrap64_id (by omega) (by omega)) | exact congrArg (fun z : Int => E.v (.int .u8 z)) (by assumption) | exact congrArg (fun z : ByteArray => E.v (.string z)) (by assumption) | (refine ⟨rfl, ?_⟩; repeat' first | exact trivial | rfl | apply And.intro)) : p := h
theorem zzm : Tryd.prog.follows .mixedOrders = true := by kernel_rfl
section
variable {X : Ctx}
theorem zzs {x y : Code} {s : St} {Q : Exit → St → Prop} (h : Tr Tryd.prog X x s (andThen Tryd.prog X y Q)) : Tr Tryd.prog X (.seq x y) s Q := tr_seq h
theorem zzb {id : Nat} {c : Code} {s : St} {Q : Exit → St → Prop} (h : Tr Tryd.prog X c s (inBlk id Q)) : Tr Tryd.prog X (.block id c) s Q := tr_block h
theorem zzk {s : St} {Q : Exit → St → Prop} (h : Q .normal s) : Tr Tryd.prog X .skip s Q := tr_skip h
theorem zzr {nt : Nat} (hnt : X.nt = nt) {id : Nat} {ops : Array Oper} {tm : Nat → D} {m : Mem} {ps : List Prop} {tm' : Nat → D} {m' : Mem} {Q : Exit → St → Prop} (h : runF tab nt ops ops.toList [] tm m = some ⟨ps, tm', m', []⟩) (hp : AllP ps) (k : Q .normal ⟨tm', m'⟩) : Tr Tryd.prog X (.region id ops false) ⟨tm, m⟩ Q := reg (T := tab) tOk hnt h hp k
theorem zzd {nt : Nat} (hnt : X.nt = nt) {id : Nat} {ops : Array Oper} {tm : Nat → D} {m : Mem} {ps : List Prop} {tm' : Nat → D} {m' : Mem} {fps : List FP} {Q : Exit → St → Prop} (h : runD tab nt ops ops.toList [] tm m = some ⟨ps, tm', m', [], fps⟩) (hp : AllP ps) (k : Q .normal ⟨tm', m'⟩)
    (hB : lexX .any ops fps ops.size 0 (Array.replicate ops.size false) = true := by first | decide +kernel | kernel_rfl) : Tr Tryd.prog X (.region id ops true) ⟨tm, m⟩ Q := regD (T := tab) tOk zzm hnt h hB hp k
theorem zzx {nt : Nat} (hnt : X.nt = nt) {ops : Array Oper} {l : List Oper} {tm : Nat → D} {m : Mem} {ps : List Prop} {tm' : Nat → D} {m' : Mem} {rest : List Oper} {s'' : St} (h : runF tab nt ops l [] tm m = some ⟨ps, tm', m', rest⟩) (hp : AllP ps) (k : Lex Tryd.prog X ops rest ⟨tm', m'⟩ s'') : Lex Tryd.prog X ops l ⟨tm, m⟩ s'' := lex (T := tab) tOk hnt h hp k
end
theorem zz1 {a b : Bool} : ((bif a then true else b) = true) = (a = true ∨ b = true) := condT_tt
theorem zz2 {a b : Bool} : ((bif a then true else b) = false) = (a = false ∧ b = false) := condT_ff
theorem zz3 {a b : Bool} : ((bif a then b else false) = true) = (a = true ∧ b = true) := condF_tt
theorem zz4 {a b : Bool} : ((bif a then b else false) = false) = (a = false ∨ b = false) := condF_ff
theorem zz5 {a : Bool} : ((!a) = true) = (a = false) := notE_t
theorem zz6 {a : Bool} : ((!a) = false) = (a = true) := notE_f
theorem zz7 {p : Prop} [Decidable p] : (decide p = true) = p := decide_eq_true_eq
theorem zz8 {p : Prop} [Decidable p] : (decide p = false) = ¬p := propext decide_eq_false_iff_not
end Go.Proofs.YtcdifgacoleckaaDoor
