/- Part of the proofs of the laws (see the last text of a claim): contracts of functions, and what they are shown with. -/
import Derived.Test.YtohooekinfpkbaaStMh
set_option linter.unusedSimpArgs false
set_option linter.unusedVariables false
open Go Go.Fw
namespace Go.Proofs
theorem plans_sorted {s : Store} : ∀ {r : Nat} {b : List Int}, b.length + r = s.loans.length → (plansL s r b).Pairwise (LexP s.loans.length)
  | 0, b, _ => by simp [plansL]
  | r + 1, b, hl => by
    simp only [plansL]
    rw [List.pairwise_flatMap]
    refine ⟨fun i hi => ?_, ?_⟩
    · split
      · exact .nil
      · exact plans_sorted (by simp; omega)
    · refine (List.pairwise_lt_range (n := itemsAt s b.length)).imp fun {i j} hij x hx y hy => ?_
      split at hx
      · simp at hx
      · split at hy
        · simp at hy
        · obtain ⟨-, hx2, -⟩ := (plansL_mem (r := r) (b := b ++ [(i : Int)]) (by simp; omega)).1 hx
          obtain ⟨-, hy2, -⟩ := (plansL_mem (r := r) (b := b ++ [(j : Int)]) (by simp; omega)).1 hy
          have hxb : gI x b.length = i := by rw [hx2 b.length (by simp), gI_app_eq]
          have hyb : gI y b.length = j := by rw [hy2 b.length (by simp), gI_app_eq]
          intro m hm he
          rcases Nat.lt_trichotomy m b.length with h | h | h
          · rw [hx2 m (by simp; omega), hy2 m (by simp; omega), gI_app_lt h, gI_app_lt h]; exact Int.le_refl _
          · rw [h, hxb, hyb]; omega
          · have := he b.length h
            omega
def gP2 (ps : List (List Int)) (i : Nat) : List Int := ps.getD i []
theorem allP_le {s : Store} {i j : Nat} (hij : i ≤ j) (hj : j < (allP s).length) : LexP s.loans.length (gP2 (allP s) i) (gP2 (allP s) j) := by
  rcases Nat.eq_or_lt_of_le hij with rfl | h
  · exact fun _ _ _ => Int.le_refl _
  · have := plans_sorted (s := s) (r := s.loans.length) (b := []) (by simp)
    rw [List.pairwise_iff_getElem] at this
    have := this i j (by unfold allP at hj; omega) hj h
    have hi : i < (allP s).length := by omega
    have ei : gP2 (allP s) i = (allP s)[i] := by simp [gP2, hi]
    have ej : gP2 (allP s) j = (allP s)[j] := by simp [gP2, hj]
    rw [ei, ej]
    exact this
theorem lexP_anti {L : Nat} {p q : List Int} (hp : p.length = L) (hq : q.length = L) (h1 : LexP L p q) (h2 : LexP L q p) : p = q := by
  have key : ∀ i, i < L → gI p i = gI q i := fun i => by
    induction i using Nat.strongRecOn with
    | ind i ih =>
      intro hi
      have a := h1 i hi fun j hj => ih j hj (by omega)
      have b := h2 i hi fun j hj => (ih j hj (by omega)).symm
      omega
  apply List.ext_getElem (by omega)
  intro i a b
  have := key i (by omega)
  simpa [gI, a, b] using this
/-- The plan that the specification takes. -/
def bestAt (s : Store) (plan : List Int) (kind lost : Int) : Nat → Option Nat
  | 0 => none
  | i + 1 => if !usesI s (gP2 (allP s) i) kind lost && (match bestAt s plan kind lost i with | none => true | some m => decide (differ (gP2 (allP s) i) plan s.loans.length < differ (gP2 (allP s) m) plan s.loans.length)) then some i else bestAt s plan kind lost i
theorem bestAt_ok {s : Store} {plan : List Int} {kind lost : Int} : ∀ {i : Nat}, match bestAt s plan kind lost i with
    | none => ∀ j, j < i → usesI s (gP2 (allP s) j) kind lost = true
    | some m => m < i ∧ usesI s (gP2 (allP s) m) kind lost = false ∧ ∀ j, j < i → usesI s (gP2 (allP s) j) kind lost = false → differ (gP2 (allP s) m) plan s.loans.length ≤ differ (gP2 (allP s) j) plan s.loans.length ∧ (differ (gP2 (allP s) m) plan s.loans.length = differ (gP2 (allP s) j) plan s.loans.length → m ≤ j)
  | 0 => by simp [bestAt]
  | i + 1 => by
    have ih := bestAt_ok (s := s) (plan := plan) (kind := kind) (lost := lost) (i := i)
    simp only [bestAt]
    cases hb : bestAt s plan kind lost i with
    | none =>
      rw [hb] at ih
      have ih : ∀ j, j < i → usesI s (gP2 (allP s) j) kind lost = true := ih
      cases hu : usesI s (gP2 (allP s) i) kind lost with
      | true => simp; exact fun j hj => by rcases Nat.lt_succ_iff_lt_or_eq.1 hj with h | rfl; exact ih j h; exact hu
      | false =>
        simp
        refine ⟨hu, fun j hj hj2 => ?_⟩
        rcases Nat.lt_succ_iff_lt_or_eq.1 hj with h | rfl
        · rw [ih j h] at hj2; cases hj2
        · exact ⟨Nat.le_refl _, fun _ => Nat.le_refl _⟩
    | some m =>
      rw [hb] at ih
      obtain ⟨h1, h2, h3⟩ := ih
      cases hu : usesI s (gP2 (allP s) i) kind lost with
      | true =>
        simp
        refine ⟨by omega, h2, fun j hj hj2 => ?_⟩
        rcases Nat.lt_succ_iff_lt_or_eq.1 hj with h | rfl
        · exact h3 j h hj2
        · rw [hu] at hj2; cases hj2
      | false =>
        by_cases hlt : differ (gP2 (allP s) i) plan s.loans.length < differ (gP2 (allP s) m) plan s.loans.length
        · simp [hlt]
          refine ⟨hu, fun j hj hj2 => ?_⟩
          rcases Nat.lt_succ_iff_lt_or_eq.1 hj with h | rfl
          · have := h3 j h hj2; exact ⟨by omega, by omega⟩
          · exact ⟨Nat.le_refl _, fun _ => Nat.le_refl _⟩
        · simp [hlt]
          refine ⟨by omega, h2, fun j hj hj2 => ?_⟩
          rcases Nat.lt_succ_iff_lt_or_eq.1 hj with h | rfl
          · exact h3 j h hj2
          · exact ⟨by omega, by omega⟩
theorem allP_get {s : Store} {i : Nat} (h : i < (allP s).length) : gP2 (allP s) i ∈ allP s := by
  have : gP2 (allP s) i = (allP s)[i] := by simp [gP2, h]
  rw [this]; exact List.getElem_mem h
/-- Both find the same plan. -/
theorem best_rep {s : Store} (o : StoreOk s) {plan : List Int} {kind lost : Int} (h0 : 0 ≤ lost) :
    match bestAt s plan kind lost (allP s).length with
    | none => repL s plan kind lost = none
    | some m => m < (allP s).length ∧ repL s plan kind lost = some (gP2 (allP s) m) ∧ chgTo s plan kind lost s.kinds.length = differ (gP2 (allP s) m) plan s.loans.length := by
  have hb := bestAt_ok (s := s) (plan := plan) (kind := kind) (lost := lost) (i := (allP s).length)
  cases hr : repL s plan kind lost with
  | none =>
    cases hbe : bestAt s plan kind lost (allP s).length with
    | none => rfl
    | some m =>
      rw [hbe] at hb
      obtain ⟨h1, h2, -⟩ := hb
      have := rep_none hr _ ((allP_mem o).1 (allP_get h1))
      rw [h2] at this; cases this
  | some p =>
    obtain ⟨hR, hu, hc, hmin⟩ := rep_some o h0 hr
    obtain ⟨j, hj, hpj⟩ := List.getElem_of_mem ((allP_mem o).2 hR)
    have hgj : gP2 (allP s) j = p := by simp [gP2, hj, hpj]
    cases hbe : bestAt s plan kind lost (allP s).length with
    | none =>
      rw [hbe] at hb
      have := hb j hj
      rw [hgj, hu] at this; cases this
    | some m =>
      rw [hbe] at hb
      obtain ⟨h1, h2, h3⟩ := hb
      have hRm := (allP_mem o).1 (allP_get h1)
      obtain ⟨h4, h5⟩ := h3 j hj (by rw [hgj]; exact hu)
      rw [hgj] at h4 h5
      obtain ⟨h6, h7⟩ := hmin _ hRm h2
      rw [hc] at h6 h7
      have e : differ (gP2 (allP s) m) plan s.loans.length = differ p plan s.loans.length := by omega
      have l1 := h7 (by rw [e])
      have l2 := allP_le (s := s) (h5 e) hj
      rw [hgj] at l2
      have := lexP_anti hR.1 hRm.1 l1 l2
      exact ⟨h1, by rw [← this], by rw [hc, e]⟩
end Go.Proofs
