/- The store's first functions. -/
import Derived.Test.YtohooekinfpkbaaStT
set_option linter.unusedSimpArgs false
set_option linter.unusedVariables false
open Go Go.Fw
namespace Go.Proofs
attribute [local irreducible] Run RunOps RunDraw pop condK guardK guardKD resK drawK
set_option maxRecDepth 4000
abbrev I (n : Int) : Value := .int .i64 n
structure Loan where
  kind : Int
  room : Int
  from_ : Int
  to : Int
  uses : Int
abbrev Loan.cells (l : Loan) : List Value := [I l.kind, I l.room, I l.from_, I l.to, I l.uses]
structure Stuff where
  items : Int
  life : Int
abbrev Stuff.cells (k : Stuff) : List Value := [I k.items, I k.life]
def within (n lo hi : Int) : Bool := decide (lo ≤ n) && decide (n ≤ hi)
def overlap (a b : Loan) : Bool := decide (a.kind = b.kind) && decide (a.from_ < b.to) && decide (b.from_ < a.to)

theorem ok64 : codeOk Try.f64.ntmps (bodyOf Try.f64) = true := by kernel_rfl
theorem within_call (n lo hi : Int) (h : Hp) : CallX Try.prog 64 #[I n, I lo, I hi] h (.bool (within n lo hi)) h := by
  refine run_flat Tok hm Try.func64 (by kernel_rfl) (by kernel_rfl) ok64 (Nat.le_of_ble_eq_true rfl) ?_
  simp -implicitDefEqProofs [bodyOf, Try.f64, within]
  with_reducible refine g_split ?_ ?_ <;> intro hb <;> simp -implicitDefEqProofs [hb]
theorem ok65 : codeOk Try.f65.ntmps (bodyOf Try.f65) = true := by kernel_rfl
theorem overlap_call (a b : Loan) (h : Hp) : CallX Try.prog 65 #[.agg a.cells.toArray, .agg b.cells.toArray] h (.bool (overlap a b)) h := by
  refine run_flat Tok hm Try.func65 (by kernel_rfl) (by kernel_rfl) ok65 (Nat.le_of_ble_eq_true rfl) ?_
  simp -implicitDefEqProofs [bodyOf, Try.f65, overlap]
  with_reducible refine g_split ?_ ?_ <;> intro hb <;> simp -implicitDefEqProofs [hb]
  all_goals (with_reducible refine g_split ?_ ?_ <;> intro hc <;> simp -implicitDefEqProofs [hb, hc])

def badKind (k : Stuff) : Bool := !within k.items 0 8 || !within k.life 1 100
theorem ok69 : codeOk Try.f69.ntmps (bodyOf Try.f69) = true := by kernel_rfl
theorem badKind_call (k : Stuff) (h : Hp) : CallX Try.prog 69 #[.agg k.cells.toArray] h (.bool (badKind k)) h := by
  refine run_flat Tok hm Try.func69 (by kernel_rfl) (by kernel_rfl) ok69 (Nat.le_of_ble_eq_true rfl) ?_
  simp -implicitDefEqProofs [bodyOf, Try.f69]
  with_reducible refine call_step (within_call _ _ _ _) ?_
  simp -implicitDefEqProofs
  with_reducible refine g_split ?_ ?_ <;> intro hb <;> simp -implicitDefEqProofs [hb, badKind]
  all_goals (with_reducible refine call_step (within_call _ _ _ _) ?_)
  all_goals (simp -implicitDefEqProofs [*])
end Go.Proofs
