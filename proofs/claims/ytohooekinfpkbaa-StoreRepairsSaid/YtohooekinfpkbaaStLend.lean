/- Part of the proofs of the laws (see the last text of a claim): contracts of functions, and what they are shown with. -/
import Derived.Test.YtohooekinfpkbaaSe
set_option linter.unusedSimpArgs false
set_option linter.unusedVariables false
open Go Go.Fw
namespace Go.Proofs
/-! ### The plain law: an item that is free can be lent. -/
def withLoan (s : Store) (w : Loan) : Store := { s with loans := s.loans ++ [w] }
theorem gL_more {s : Store} {w : Loan} {i : Nat} (hi : i < s.loans.length) : gL (withLoan s w) i = gL s i := by
  simp [gL, withLoan, List.getElem?_append_left hi]
theorem gL_last {s : Store} {w : Loan} : gL (withLoan s w) s.loans.length = w := by simp [gL, withLoan]
theorem gI_more {xs : List Int} {n : Int} {i : Nat} (hi : i < xs.length) : gI (xs ++ [n]) i = gI xs i := by simp [gI, List.getElem?_append_left hi]
theorem gI_last {xs : List Int} {n : Int} : gI (xs ++ [n]) xs.length = n := by simp [gI]
theorem more_ok {s : Store} (o : StoreOk s) {w : Loan} (hl : s.loans.length < 20) (hk : 0 ≤ w.kind ∧ w.kind < s.kinds.length) (hr : 0 ≤ w.room ∧ w.room ≤ 100) (ht : 1 ≤ w.to ∧ w.to ≤ 1440) (hf : 0 ≤ w.from_ ∧ w.from_ < w.to) (hu : 0 ≤ w.uses ∧ w.uses ≤ 100) : StoreOk (withLoan s w) := by
  have hL : (withLoan s w).loans.length = s.loans.length + 1 := by simp [withLoan]
  have key : ∀ i, i < (withLoan s w).loans.length → (i < s.loans.length ∧ gL (withLoan s w) i = gL s i) ∨ gL (withLoan s w) i = w := fun i hi => by
    rcases Nat.lt_or_ge i s.loans.length with h | h
    · exact .inl ⟨h, gL_more h⟩
    · have : i = s.loans.length := by omega
      subst this
      exact .inr gL_last
  refine ⟨o.k8, by rw [hL]; omega, o.items, o.life, ?_, ?_, ?_, ?_, ?_⟩ <;> intro i hi <;> rcases key i hi with ⟨h1, h2⟩ | h2 <;> rw [h2]
  · exact o.kind i h1
  · exact hk
  · exact o.room i h1
  · exact hr
  · exact o.to i h1
  · exact ht
  · exact o.from_ i h1
  · exact hf
  · exact o.uses i h1
  · exact hu
theorem wear_le_life {s : Store} {plan : List Int} {kind n : Nat} (hlife : 0 ≤ (gK s kind).life) : ∀ {k : Nat}, (∀ j, j < k → badAt s plan j = false) → wearAt s plan kind n k ≤ (gK s kind).life
  | 0, _ => by simpa [wearAt] using hlife
  | k + 1, h => by
    have ih := wear_le_life hlife (plan := plan) (n := n) (k := k) (fun j hj => h j (by omega))
    simp only [wearAt]
    split
    · rename_i hc
      have hb := h k (by omega)
      simp only [badAt, Bool.or_eq_false_iff, decide_eq_false_iff_not, Bool.not_eq_false', Bool.and_eq_true, decide_eq_true_eq] at hb
      have := hb.2.1
      rw [hc.1, hc.2, Int.toNat_natCast, Int.toNat_natCast] at this
      exact this
    · omega
theorem more_same {s : Store} {w : Loan} {plan : List Int} {n : Int} (hlen : plan.length = s.loans.length) :
    (∀ kind m k, k ≤ s.loans.length → wearAt (withLoan s w) (plan ++ [n]) kind m k = wearAt s plan kind m k) ∧ (∀ kind m i, i ≤ s.loans.length → lentAt (withLoan s w) (plan ++ [n]) kind m i = lentAt s plan kind m i) := by
  constructor
  · intro kind m k
    induction k with
    | zero => intro; rfl
    | succ k ih => intro hk; simp only [wearAt]; rw [ih (by omega), gL_more (by omega : k < s.loans.length), gI_more (by omega : k < plan.length)]
  · intro kind m i hi
    unfold lentAt
    refine List.filter_congr fun j hj => ?_
    have hj := List.mem_range.1 hj
    rw [gL_more (by omega : j < s.loans.length), gI_more (by omega : j < plan.length)]
theorem more_chk {s : Store} {w : Loan} {plan : List Int} {kind n : Nat} (hc : (chk s plan).2 = 0) (hl : s.loans.length < 20) (hk : kind < s.kinds.length) (hwk : w.kind = kind) (hr : 0 ≤ w.room ∧ w.room ≤ 100) (ht : 1 ≤ w.to ∧ w.to ≤ 1440) (hf : 0 ≤ w.from_ ∧ w.from_ < w.to) (hu : w.uses = 0) (hn : (n : Int) < (gK s kind).items) :
    (chk (withLoan s w) (plan ++ [(n : Int)])).2 = if taken s plan n w s.loans.length then 101 else 0 := by
  obtain ⟨he, hb⟩ := chk_zero.1 hc
  obtain ⟨o, hp⟩ := errPlan_ok he
  have hlen := okPlan_length hp
  have ok := more_ok o hl (by rw [hwk]; omega) hr ht hf (by omega)
  have hL : (withLoan s w).loans.length = s.loans.length + 1 := by simp [withLoan]
  have hP : (plan ++ [(n : Int)]).length = plan.length + 1 := by simp
  have hK : ∀ i, gK (withLoan s w) i = gK s i := fun i => rfl
  obtain ⟨hw, hlt⟩ := more_same (w := w) (n := (n : Int)) hlen
  have hlast : gI (plan ++ [(n : Int)]) s.loans.length = n := by rw [← hlen]; exact gI_last
  have hpl : okPlan (withLoan s w) (plan ++ [(n : Int)]) = true := by
    refine okPlan_true (by rw [hL, hP, hlen]) fun j hj => ?_
    rw [hP] at hj
    have h2 := hp
    simp only [okPlan, Bool.and_eq_true, List.all_eq_true, List.mem_range] at h2
    rcases Nat.lt_or_ge j plan.length with h | h
    · have := h2.2 j h
      simp only [planAt] at this ⊢
      rw [gI_more h, gL_more (by omega), hK]
      exact this
    · have : j = s.loans.length := by omega
      subst this
      simp only [planAt, hlast, gL_last, hwk, within_iff, Int.toNat_natCast, hK]
      omega
  have hep : errPlan (withLoan s w) (plan ++ [(n : Int)]) = 0 := by simp [errPlan, okStore_iff.2 ok, hpl]
  have old : ∀ i, i < s.loans.length → badAt (withLoan s w) (plan ++ [(n : Int)]) i = false := fun i hi => by
    have hbi := hb i (by omega)
    simp only [badAt, Bool.or_eq_false_iff, decide_eq_false_iff_not, Bool.not_eq_false', Bool.and_eq_true, Bool.not_eq_true', List.any_eq_false, decide_eq_true_eq] at hbi ⊢
    rw [gL_more hi, gI_more (by omega), hK, hw _ _ i (by omega), hlt _ _ i (by omega)]
    refine ⟨hbi.1, hbi.2.1, fun j hj => ?_⟩
    have hj2 := hj
    simp only [lentAt, List.mem_filter, List.mem_range] at hj2
    rw [gL_more (by omega)]
    exact hbi.2.2 j hj
  have hlife := o.life kind hk
  have hwl := wear_le_life (s := s) (plan := plan) (kind := kind) (n := n) (by omega) (fun j (hj : j < s.loans.length) => hb j (by omega))
  have new : badAt (withLoan s w) (plan ++ [(n : Int)]) s.loans.length = taken s plan n w s.loans.length := by
    have h0 : decide ((n : Int) < 0) = false := by simp
    simp only [badAt, hlast, gL_last, h0, Bool.false_or, hwk, Int.toNat_natCast, hu, Int.add_zero, hK, hw _ _ _ (Nat.le_refl _), hlt _ _ _ (Nat.le_refl _), hwl, decide_true, Bool.true_and, Bool.not_not]
    rw [Bool.eq_iff_iff, List.any_eq_true, taken, List.any_eq_true]
    constructor
    · rintro ⟨j, hj, ho⟩
      simp only [lentAt, List.mem_filter, List.mem_range, Bool.and_eq_true, decide_eq_true_eq] at hj
      refine ⟨j, List.mem_range.2 hj.1, ?_⟩
      rw [gL_more hj.1] at ho
      simp [takenAt, hj.2.2, ho]
    · rintro ⟨j, hj, ho⟩
      have hj := List.mem_range.1 hj
      simp only [takenAt, Bool.and_eq_true, decide_eq_true_eq] at ho
      have hkk : (gL s j).kind = kind := by
        have := ho.2
        simp only [overlap, Bool.and_eq_true, decide_eq_true_eq] at this
        rw [this.1.1, hwk]
      refine ⟨j, ?_, by rw [gL_more hj]; exact ho.2⟩
      simp only [lentAt, List.mem_filter, List.mem_range, Bool.and_eq_true, decide_eq_true_eq]
      exact ⟨hj, hkk, ho.1⟩
  cases ht' : taken s plan n w s.loans.length with
  | true =>
    rw [chk_bad hep (by rw [hP, hlen]; omega) old (new.trans ht')]
    rfl
  | false =>
    rw [chk_good hep fun j hj => ?_]
    · rfl
    · rw [hP, hlen] at hj
      rcases Nat.lt_or_ge j s.loans.length with h | h
      · exact old j h
      · have : j = s.loans.length := by omega
        subst this
        exact new.trans ht'
/-- Where the free items stand in their list. -/
theorem freeL_split {s : Store} {plan : List Int} {w : Loan} {k : Nat} : ∀ {N : Nat}, k < N → ∃ rest, freeL s plan w N = freeL s plan w k ++ (if taken s plan k w s.loans.length then [] else [(k : Int)]) ++ rest ∧ ∀ x ∈ rest, (k : Int) < x
  | 0, h => absurd h (Nat.not_lt_zero _)
  | N + 1, h => by
    rcases Nat.lt_succ_iff_lt_or_eq.1 h with h1 | rfl
    · obtain ⟨rest, e, hr⟩ := freeL_split (s := s) (plan := plan) (w := w) h1
      refine ⟨rest ++ (if taken s plan N w s.loans.length then [] else [(N : Int)]), by rw [freeL_succ, e, List.append_assoc], fun x hx => ?_⟩
      rcases List.mem_append.1 hx with hx | hx
      · exact hr x hx
      · split at hx
        · cases hx
        · simp only [List.mem_singleton] at hx
          subst hx
          omega
    · exact ⟨[], by rw [freeL_succ, List.append_nil], by simp⟩
theorem freeL_at {s : Store} {plan : List Int} {w : Loan} {k N : Nat} (h : k < N) :
    (decide ((freeL s plan w k).length < (freeL s plan w N).length) && decide (gI (freeL s plan w N) (freeL s plan w k).length = k)) = !taken s plan k w s.loans.length := by
  obtain ⟨rest, e, hr⟩ := freeL_split (s := s) (plan := plan) (w := w) h
  rw [e]
  cases ht : taken s plan k w s.loans.length with
  | false => simp [gI]
  | true =>
    simp only [if_true, List.append_nil, Bool.not_true]
    cases rest with
    | nil => simp
    | cons x rest =>
      have := hr x (by simp)
      have hx : ¬ x = (k : Int) := by omega
      simp [gI, hx]
end Go.Proofs
