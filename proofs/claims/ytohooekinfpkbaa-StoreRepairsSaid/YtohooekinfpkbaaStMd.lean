/- Part of the proofs of the laws (see the last text of a claim): contracts of functions, and what they are shown with. -/
import Derived.Test.YtohooekinfpkbaaSg
set_option linter.unusedSimpArgs false
set_option linter.unusedVariables false
open Go Go.Fw
namespace Go.Proofs
def badUse (s : Store) (k : Nat) (l : Loan) : Bool := decide (l.kind = k) && decide ((gK s k).life < l.uses)
/-- The least number of items. -/
def needO (s : Store) (k : Nat) : Option Nat := (List.range (s.loans.length + 1)).find? (possB s k)
theorem wearAt_nonneg {s : Store} (o : StoreOk s) {p : List Int} {k : Int} {n i : Nat} (hi : i ≤ s.loans.length) : 0 ≤ wearAt s p k n i := (wear_bound o hi).1
theorem bad_none {s : Store} (o : StoreOk s) {k : Nat} (h : s.loans.any (badUse s k) = true) (N : Nat) : ¬ HasK s k N := by
  rintro ⟨p, hp⟩
  obtain ⟨l, hl, hb⟩ := List.any_eq_true.1 h
  obtain ⟨j, hj, rfl⟩ := List.getElem_of_mem hl
  have e : s.loans[j] = gL s j := by simp [gL, hj]
  rw [e] at hb
  simp only [badUse, Bool.and_eq_true, decide_eq_true_eq] at hb
  have h1 := (hp j hj hb.1).2.2
  simp only [badAt, Bool.or_eq_false_iff, Bool.not_eq_false', Bool.and_eq_true, decide_eq_true_eq] at h1
  have h2 := h1.2.1
  have h3 := wearAt_nonneg o (p := p) (k := (gL s j).kind) (n := (gI p j).toNat) (i := j) (by omega)
  rw [hb.1, Int.toNat_natCast] at h2
  rw [hb.1] at h3
  omega
def idP (L : Nat) : List Int := (List.range L).map fun (n : Nat) => (n : Int)
theorem idP_at {L i : Nat} (h : i < L) : gI (idP L) i = i := by simp [gI, idP, h]
theorem id_wear {s : Store} {k : Int} {n : Nat} : ∀ {i : Nat}, i ≤ s.loans.length → i ≤ n → wearAt s (idP s.loans.length) k n i = 0 ∧ lentAt s (idP s.loans.length) k n i = []
  | 0, _, _ => ⟨rfl, rfl⟩
  | i + 1, h, hn => by
    obtain ⟨h1, h2⟩ := id_wear (s := s) (k := k) (n := n) (i := i) (by omega) (by omega)
    have hne : ¬ ((gL s i).kind = k ∧ gI (idP s.loans.length) i = n) := by rw [idP_at (by omega)]; rintro ⟨-, h⟩; omega
    constructor
    · rw [wearAt, if_neg hne, h1]; rfl
    · rw [lentAt_succ, if_neg hne, h2]; rfl
theorem good_has {s : Store} (o : StoreOk s) {k : Nat} (h : s.loans.any (badUse s k) = false) : HasK s k s.loans.length := by
  refine ⟨idP s.loans.length, fun j hj hk => ?_⟩
  have e := idP_at hj
  refine ⟨by omega, by omega, ?_⟩
  have hb := List.any_eq_false.1 h (gL s j) (by simp only [gL, List.getD_eq_getElem?_getD, List.getElem?_eq_getElem hj, Option.getD_some]; exact List.getElem_mem hj)
  simp only [badUse, Bool.and_eq_true, decide_eq_true_eq, not_and, Int.not_lt] at hb
  have hb := hb hk
  obtain ⟨h1, h2⟩ := id_wear (s := s) (k := (k : Int)) (n := j) (i := j) (by omega) (Nat.le_refl _)
  simp only [badAt, e, hk, Int.toNat_natCast, h1, h2, Int.zero_add, List.any_nil, Bool.not_false, Bool.and_true, Bool.or_eq_false_iff, decide_eq_false_iff_not, Bool.not_eq_false', decide_eq_true_eq]
  exact ⟨by omega, hb⟩
theorem needO_bad {s : Store} (o : StoreOk s) {k : Nat} (hk : k < s.kinds.length) (h : s.loans.any (badUse s k) = true) : needO s k = none := by
  rw [needO, List.find?_range_eq_none]
  intro i _
  have := bad_none o h i
  rw [← poss_iff o hk] at this
  simpa using this
theorem needO_good {s : Store} (o : StoreOk s) {k : Nat} (hk : k < s.kinds.length) (h : s.loans.any (badUse s k) = false) : ∃ n, needO s k = some n ∧ n ≤ s.loans.length ∧ possB s k n = true ∧ ∀ j, j < n → possB s k j = false := by
  have hp := (poss_iff o hk).2 (good_has o h)
  cases hn : needO s k with
  | none =>
    rw [needO, List.find?_range_eq_none] at hn
    have := hn s.loans.length (by omega)
    rw [hp] at this
    cases this
  | some n =>
    have hn' := hn
    rw [needO, List.find?_range_eq_some] at hn'
    exact ⟨n, rfl, by have := List.mem_range.1 hn'.2.1; omega, hn'.1, fun j hj => by simpa using hn'.2.2 j hj⟩
theorem needO_some {s : Store} {k n : Nat} (h : needO s k = some n) : n ≤ s.loans.length ∧ possB s k n = true ∧ ∀ j, j < n → possB s k j = false := by
  rw [needO, List.find?_range_eq_some] at h
  exact ⟨by have := List.mem_range.1 h.2.1; omega, h.1, fun j hj => by simpa using h.2.2 j hj⟩
end Go.Proofs
