/- Small rules for walks. -/
import Derived.Test.YtohooekinfpkbaaFwV
import Derived.IntWalk
set_option linter.unusedVariables false
set_option linter.unusedSimpArgs false
namespace Go.Fw
@[simp] theorem cast_lt {a b : Nat} : ((a : Int) < (b : Int)) = (a < b) := by simp
@[simp] theorem cast_le {a b : Nat} : ((a : Int) ≤ (b : Int)) = (a ≤ b) := by simp
@[simp] theorem cast_eq {a b : Nat} : ((a : Int) = (b : Int)) = (a = b) := by simp; omega
@[simp] theorem lit_lt {k n : Nat} : ((no_index (@OfNat.ofNat Int k instOfNat)) < (n : Int)) = (((no_index (@OfNat.ofNat Nat k (instOfNatNat k)))) < n) := propext Int.ofNat_lt
@[simp] theorem lt_lit {k n : Nat} : ((n : Int) < (no_index (@OfNat.ofNat Int k instOfNat))) = (n < (@OfNat.ofNat Nat k (instOfNatNat k))) := propext Int.ofNat_lt
@[simp] theorem lit_le {k n : Nat} : ((no_index (@OfNat.ofNat Int k instOfNat)) ≤ (n : Int)) = (((no_index (@OfNat.ofNat Nat k (instOfNatNat k)))) ≤ n) := propext Int.ofNat_le
@[simp] theorem le_lit {k n : Nat} : ((n : Int) ≤ (no_index (@OfNat.ofNat Int k instOfNat))) = (n ≤ (@OfNat.ofNat Nat k (instOfNatNat k))) := propext Int.ofNat_le
@[simp] theorem eq_lit {k n : Nat} : ((n : Int) = (no_index (@OfNat.ofNat Int k instOfNat))) = (n = (@OfNat.ofNat Nat k (instOfNatNat k))) := propext ⟨fun h => Int.ofNat.inj h, fun h => congrArg Int.ofNat h⟩
theorem wrap_succ {i n : Nat} (h : i < n) (hn : n ≤ 1000000) : IntKind.i64.wrap ((i : Int) + 1) = (i : Int) + 1 := IntWalk.i64_in _ (by omega)
theorem all_succ {i : Nat} {p : Nat → Prop} (h : ∀ j, j < i → p j) (hi : p i) : ∀ j, j < i + 1 → p j := fun j hj => (Nat.lt_succ_iff_lt_or_eq.1 hj).elim (h j) (fun e => e ▸ hi)
@[simp] theorem alloc_set {h : Hp} {o o' : Obj} {j : Nat} (e : j = h.n) : (h.alloc o).set j o' = h.alloc o' := by
  subst e
  unfold Hp.alloc Hp.set
  simp only [Hp.mk.injEq, true_and]
  funext i
  by_cases e : i = h.n <;> simp [e]
attribute [simp] Upto.alloc Upto.set
end Go.Fw
