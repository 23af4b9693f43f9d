/- Part of the proofs of the laws (see the last text of a claim): contracts of functions. -/
import Derived.Test.YtohooekinfpkbaaStF
set_option linter.unusedSimpArgs false
set_option linter.unusedVariables false
open Go Go.Fw
namespace Go.Proofs
attribute [local irreducible] Run RunOps RunDraw pop condK guardK guardKD resK drawK RunD dK gK
set_option maxRecDepth 4000
theorem errStore_bad {s : Store} (h : okStore s = false) : errStore s = 100 := by simp [errStore, h]
theorem okStore_kind {s : Store} {i : Nat} (hi : i < s.kinds.length) (h : badKind (gK s i) = true) : okStore s = false := by
  refine okStore_false fun o => ?_
  have a := o.items i hi
  have b := o.life i hi
  simp [badKind, within, a, b] at h
theorem okStore_loan {s : Store} {i : Nat} (hi : i < s.loans.length) (h : badLoan s.kinds.length (gL s i) = true) : okStore s = false := by
  cases ho : okStore s with
  | false => rfl
  | true =>
    simp only [okStore, Bool.and_eq_true, Bool.not_eq_true', List.any_eq_false] at ho
    have := ho.2 s.loans[i] (List.getElem_mem hi)
    rw [gL_get hi, h] at this
    exact absurd rfl this
theorem okStore_of {s : Store} (h1 : s.kinds.length ≤ 8) (h2 : s.loans.length ≤ 20) (hk : ∀ i, i < s.kinds.length → badKind (gK s i) = false) (hl : ∀ i, i < s.loans.length → badLoan s.kinds.length (gL s i) = false) : okStore s = true := by
  simp only [okStore, Bool.and_eq_true, decide_eq_true_eq, Bool.not_eq_true', List.any_eq_false]
  refine ⟨⟨⟨h1, h2⟩, fun x hx => ?_⟩, fun x hx => ?_⟩
  · obtain ⟨i, hi', rfl⟩ := List.getElem_of_mem hx
    rw [gK_get hi', hk i hi']
    simp
  · obtain ⟨i, hi', rfl⟩ := List.getElem_of_mem hx
    rw [gL_get hi', hl i hi']
    simp
theorem ok30 : codeOk Try.f30.ntmps (bodyOf Try.f30) = true := by kernel_rfl
theorem check30 {h : Hp} {kv lv : Value} {s : Store} (a : StoreAt h kv lv s) : CallX Try.prog 30 #[.agg #[kv, lv]] h (I (errStore s)) h := by
  refine run_flat Tok hm Try.func30 (by kernel_rfl) (by kernel_rfl) ok30 (Nat.le_of_ble_eq_true rfl) ?_
  by_cases k8 : s.kinds.length ≤ 8
  case neg =>
    have e1 : 8 < s.kinds.length := by omega
    have he := errStore_bad (okStore_false fun o => k8 o.k8)
    repeat (first
      | with_reducible refine draw_enter ?_
      | with_reducible exact rok_nil
      | ((with_reducible refine rok_cons ?_ ?_); (first | exact Or.inl (by decide +kernel) | exact Or.inr (by simp [bodyOf, Try.f30, a.kinds.len, a.loans.len, e1, he])))
      | with_reducible refine rok_and ?_ ?_
      | ((with_reducible refine eok_cons ?_ ?_); (first | exact Or.inl (by decide +kernel) | exact Or.inr (by simp [bodyOf, Try.f30, a.kinds.len, a.loans.len, e1, he])))
      | with_reducible refine eok_and ?_ ?_
      | simp -implicitDefEqProofs [bodyOf, Try.f30, a.kinds.len, a.loans.len, e1, he])
  have e1 : ¬ 8 < s.kinds.length := by omega
  by_cases l20 : s.loans.length ≤ 20
  case neg =>
    have e2 : 20 < s.loans.length := by omega
    have he := errStore_bad (okStore_false fun o => l20 o.l20)
    repeat (first
      | with_reducible refine draw_enter ?_
      | with_reducible exact rok_nil
      | ((with_reducible refine rok_cons ?_ ?_); (first | exact Or.inl (by decide +kernel) | exact Or.inr (by simp [bodyOf, Try.f30, a.kinds.len, a.loans.len, e1, e2, he])))
      | with_reducible refine rok_and ?_ ?_
      | ((with_reducible refine eok_cons ?_ ?_); (first | exact Or.inl (by decide +kernel) | exact Or.inr (by simp [bodyOf, Try.f30, a.kinds.len, a.loans.len, e1, e2, he])))
      | with_reducible refine eok_and ?_ ?_
      | simp -implicitDefEqProofs [bodyOf, Try.f30, a.kinds.len, a.loans.len, e1, e2, he])
  have e2 : ¬ 20 < s.loans.length := by omega
  repeat (first
    | with_reducible refine draw_enter ?_
    | with_reducible exact rok_nil
    | ((with_reducible refine rok_cons ?_ ?_); (first | exact Or.inl (by decide +kernel) | exact Or.inr (by simp [bodyOf, Try.f30, a.kinds.len, a.loans.len, e1, e2])))
    | with_reducible refine rok_and ?_ ?_
    | ((with_reducible refine eok_cons ?_ ?_); (first | exact Or.inl (by decide +kernel) | exact Or.inr (by simp [bodyOf, Try.f30, a.kinds.len, a.loans.len, e1, e2])))
    | with_reducible refine eok_and ?_ ?_
    | simp -implicitDefEqProofs [bodyOf, Try.f30, a.kinds.len, a.loans.len, e1, e2])
  refine run_for Tok hm (by kernel_rfl) [2, 3, 16, 17, 18, 19, 20, 21, 22, 23, 24, 25, 26, 27, 28, 29, 30, 31, 32, 33, 34, 35, 36, 37, 38, 39, 40] (by kernel_rfl) (h.n + 1) s.kinds.length (fun i f h1 => f 3 = I i ∧ ∀ j, j < i → badKind (gK s j) = false) ?_ ?_ ?_
  · simp
  · rintro i f h1 hi ⟨h3, hall⟩ fr hu
    have hg : Grow h h1 := hu.grow (by simp) (by simp)
    have hb : h1.g h.n = .row true 2 [kv, lv] := by rw [hu.2 _ (by simp)]; simp
    have hn : h.n < h1.n := by have := hu.1; simp at this; omega
    have a1 := a.grow hg
    have r := a1.kinds.ref (by omega)
    have l1 := ld_items a1 hi
    have l2 := ld_life a1 hi
    have hw := wrap_succ hi (by omega)
    cases q1 : within (gK s i).items 0 8 with
    | false =>
      have he := errStore_bad (okStore_kind hi (by simp [badKind, q1]))
      repeat (first
        | with_reducible refine call_step (within55 _ _ _ _) ?_
        | with_reducible refine draw_enter ?_
        | with_reducible refine q_call (within55 _ _ _ _) ROk.refl ?_
        | with_reducible exact rok_nil
        | ((with_reducible refine rok_cons ?_ ?_); (first | exact Or.inl (by decide +kernel) | exact Or.inr (by simp [h3, fr, a.kinds.len, r, l1, l2, hi, hw, hb, hn, q1, he, hg, hg.1])))
        | with_reducible refine rok_and ?_ ?_
        | ((with_reducible refine eok_cons ?_ ?_); (first | exact Or.inl (by decide +kernel) | exact Or.inr (by simp [h3, fr, a.kinds.len, r, l1, l2, hi, hw, hb, hn, q1, he, hg, hg.1])))
        | with_reducible refine eok_and ?_ ?_
        | simp -implicitDefEqProofs [h3, fr, a.kinds.len, r, l1, l2, hi, hw, hb, hn, q1, he, hg, hg.1])
    | true =>
      cases q2 : within (gK s i).life 1 100 with
      | false =>
        have he := errStore_bad (okStore_kind hi (by simp [badKind, q2]))
        repeat (first
          | with_reducible refine call_step (within55 _ _ _ _) ?_
          | with_reducible refine draw_enter ?_
          | with_reducible refine q_call (within55 _ _ _ _) ROk.refl ?_
          | with_reducible exact rok_nil
          | ((with_reducible refine rok_cons ?_ ?_); (first | exact Or.inl (by decide +kernel) | exact Or.inr (by simp [h3, fr, a.kinds.len, r, l1, l2, hi, hw, hb, hn, q1, q2, he, hg, hg.1])))
          | with_reducible refine rok_and ?_ ?_
          | ((with_reducible refine eok_cons ?_ ?_); (first | exact Or.inl (by decide +kernel) | exact Or.inr (by simp [h3, fr, a.kinds.len, r, l1, l2, hi, hw, hb, hn, q1, q2, he, hg, hg.1])))
          | with_reducible refine eok_and ?_ ?_
          | simp -implicitDefEqProofs [h3, fr, a.kinds.len, r, l1, l2, hi, hw, hb, hn, q1, q2, he, hg, hg.1])
      | true =>
        have := all_succ hall (show badKind (gK s i) = false by simp [badKind, q1, q2])
        repeat (first
          | with_reducible refine call_step (within55 _ _ _ _) ?_
          | with_reducible refine draw_enter ?_
          | with_reducible refine q_call (within55 _ _ _ _) ROk.refl ?_
          | with_reducible exact rok_nil
          | ((with_reducible refine rok_cons ?_ ?_); (first | exact Or.inl (by decide +kernel) | exact Or.inr (by simp [h3, fr, a.kinds.len, r, l1, l2, hi, hw, hb, hn, q1, q2])))
          | with_reducible refine rok_and ?_ ?_
          | ((with_reducible refine eok_cons ?_ ?_); (first | exact Or.inl (by decide +kernel) | exact Or.inr (by simp [h3, fr, a.kinds.len, r, l1, l2, hi, hw, hb, hn, q1, q2])))
          | with_reducible refine eok_and ?_ ?_
          | simp -implicitDefEqProofs [h3, fr, a.kinds.len, r, l1, l2, hi, hw, hb, hn, q1, q2])
        exact this
  rintro f1 h1 ⟨h3, hall⟩ fr1 hu1
  have hg1 : Grow h h1 := hu1.grow (by simp) (by simp)
  have hb1 : h1.g h.n = .row true 2 [kv, lv] := by rw [hu1.2 _ (by simp)]; simp
  have hn1 : h.n < h1.n := by have := hu1.1; simp at this; omega
  repeat (first
    | with_reducible refine draw_enter ?_
    | with_reducible exact rok_nil
    | ((with_reducible refine rok_cons ?_ ?_); (first | exact Or.inl (by decide +kernel) | exact Or.inr (by simp [h3, fr1, a.kinds.len, hb1, hn1])))
    | with_reducible refine rok_and ?_ ?_
    | ((with_reducible refine eok_cons ?_ ?_); (first | exact Or.inl (by decide +kernel) | exact Or.inr (by simp [h3, fr1, a.kinds.len, hb1, hn1])))
    | with_reducible refine eok_and ?_ ?_
    | simp -implicitDefEqProofs [h3, fr1, a.kinds.len, hb1, hn1])
  have hwk : IntKind.i64.wrap ((s.kinds.length : Int) - 1) = (s.kinds.length : Int) - 1 := IntWalk.i64_in _ (by omega)
  refine run_for Tok hm (by kernel_rfl) [2, 4, 5, 41, 42, 43, 44, 45, 46, 47, 48, 49, 50, 51, 52, 53, 54, 55, 56, 57, 58, 59, 60, 61, 62, 63, 64, 65, 66, 67, 68, 69, 70, 71, 72, 73, 74, 75, 76, 77, 78, 79, 80, 81, 82, 83, 84, 85, 86, 87] (by kernel_rfl) (h.n + 1) s.loans.length (fun i f h1 => f 4 = I i ∧ ∀ j, j < i → badLoan s.kinds.length (gL s j) = false) ?_ ?_ ?_
  · simp
  · rintro i f h2 hi ⟨h4, hall2⟩ fr hu
    have hg : Grow h h2 := hu.grow hg1 (by simp)
    have hb : h2.g h.n = .row true 2 [kv, lv] := by rw [hu.2 _ (by simp)]; exact hb1
    have hn : h.n < h2.n := by have := hu.1; omega
    have a1 := a.grow hg
    have r := a1.loans.ref (by omega)
    have l1 := ld_loan a1 hi
    have hw := wrap_succ hi (by omega)
    cases q1 : within (gL s i).kind 0 (s.kinds.length - 1) with
    | false =>
      have he := errStore_bad (okStore_loan hi (by simp [badLoan, q1]))
      repeat (first
        | with_reducible refine call_step (within55 _ _ _ _) ?_
        | with_reducible refine draw_enter ?_
        | with_reducible refine q_call (within55 _ _ _ _) ROk.refl ?_
        | with_reducible exact rok_nil
        | ((with_reducible refine rok_cons ?_ ?_); (first | exact Or.inl (by decide +kernel) | exact Or.inr (by simp [h4, fr, fr1, a.kinds.len, a.loans.len, r, l1, hi, hw, hb, hn, hwk, q1, he, hg, hg.1])))
        | with_reducible refine rok_and ?_ ?_
        | ((with_reducible refine eok_cons ?_ ?_); (first | exact Or.inl (by decide +kernel) | exact Or.inr (by simp [h4, fr, fr1, a.kinds.len, a.loans.len, r, l1, hi, hw, hb, hn, hwk, q1, he, hg, hg.1])))
        | with_reducible refine eok_and ?_ ?_
        | simp -implicitDefEqProofs [h4, fr, fr1, a.kinds.len, a.loans.len, r, l1, hi, hw, hb, hn, hwk, q1, he, hg, hg.1])
    | true => cases q2 : within (gL s i).room 0 100 with
      | false =>
        have he := errStore_bad (okStore_loan hi (by simp [badLoan, q2]))
        repeat (first
          | with_reducible refine call_step (within55 _ _ _ _) ?_
          | with_reducible refine draw_enter ?_
          | with_reducible refine q_call (within55 _ _ _ _) ROk.refl ?_
          | with_reducible exact rok_nil
          | ((with_reducible refine rok_cons ?_ ?_); (first | exact Or.inl (by decide +kernel) | exact Or.inr (by simp [h4, fr, fr1, a.kinds.len, a.loans.len, r, l1, hi, hw, hb, hn, hwk, q1, q2, he, hg, hg.1])))
          | with_reducible refine rok_and ?_ ?_
          | ((with_reducible refine eok_cons ?_ ?_); (first | exact Or.inl (by decide +kernel) | exact Or.inr (by simp [h4, fr, fr1, a.kinds.len, a.loans.len, r, l1, hi, hw, hb, hn, hwk, q1, q2, he, hg, hg.1])))
          | with_reducible refine eok_and ?_ ?_
          | simp -implicitDefEqProofs [h4, fr, fr1, a.kinds.len, a.loans.len, r, l1, hi, hw, hb, hn, hwk, q1, q2, he, hg, hg.1])
      | true => cases q3 : within (gL s i).to 1 1440 with
        | false =>
          have he := errStore_bad (okStore_loan hi (by simp [badLoan, q3]))
          repeat (first
            | with_reducible refine call_step (within55 _ _ _ _) ?_
            | with_reducible refine draw_enter ?_
            | with_reducible refine q_call (within55 _ _ _ _) ROk.refl ?_
            | with_reducible exact rok_nil
            | ((with_reducible refine rok_cons ?_ ?_); (first | exact Or.inl (by decide +kernel) | exact Or.inr (by simp [h4, fr, fr1, a.kinds.len, a.loans.len, r, l1, hi, hw, hb, hn, hwk, q1, q2, q3, he, hg, hg.1])))
            | with_reducible refine rok_and ?_ ?_
            | ((with_reducible refine eok_cons ?_ ?_); (first | exact Or.inl (by decide +kernel) | exact Or.inr (by simp [h4, fr, fr1, a.kinds.len, a.loans.len, r, l1, hi, hw, hb, hn, hwk, q1, q2, q3, he, hg, hg.1])))
            | with_reducible refine eok_and ?_ ?_
            | simp -implicitDefEqProofs [h4, fr, fr1, a.kinds.len, a.loans.len, r, l1, hi, hw, hb, hn, hwk, q1, q2, q3, he, hg, hg.1])
        | true => cases q4 : within (gL s i).from_ 0 (IntKind.i64.wrap ((gL s i).to - 1)) with
          | false =>
            have he := errStore_bad (okStore_loan hi (by simp [badLoan, q4]))
            repeat (first
              | with_reducible refine call_step (within55 _ _ _ _) ?_
              | with_reducible refine draw_enter ?_
              | with_reducible refine q_call (within55 _ _ _ _) ROk.refl ?_
              | with_reducible exact rok_nil
              | ((with_reducible refine rok_cons ?_ ?_); (first | exact Or.inl (by decide +kernel) | exact Or.inr (by simp [h4, fr, fr1, a.kinds.len, a.loans.len, r, l1, hi, hw, hb, hn, hwk, q1, q2, q3, q4, he, hg, hg.1])))
              | with_reducible refine rok_and ?_ ?_
              | ((with_reducible refine eok_cons ?_ ?_); (first | exact Or.inl (by decide +kernel) | exact Or.inr (by simp [h4, fr, fr1, a.kinds.len, a.loans.len, r, l1, hi, hw, hb, hn, hwk, q1, q2, q3, q4, he, hg, hg.1])))
              | with_reducible refine eok_and ?_ ?_
              | simp -implicitDefEqProofs [h4, fr, fr1, a.kinds.len, a.loans.len, r, l1, hi, hw, hb, hn, hwk, q1, q2, q3, q4, he, hg, hg.1])
          | true => cases q5 : within (gL s i).uses 0 100 with
            | false =>
              have he := errStore_bad (okStore_loan hi (by simp [badLoan, q5]))
              repeat (first
                | with_reducible refine call_step (within55 _ _ _ _) ?_
                | with_reducible refine draw_enter ?_
                | with_reducible refine q_call (within55 _ _ _ _) ROk.refl ?_
                | with_reducible exact rok_nil
                | ((with_reducible refine rok_cons ?_ ?_); (first | exact Or.inl (by decide +kernel) | exact Or.inr (by simp [h4, fr, fr1, a.kinds.len, a.loans.len, r, l1, hi, hw, hb, hn, hwk, q1, q2, q3, q4, q5, he, hg, hg.1])))
                | with_reducible refine rok_and ?_ ?_
                | ((with_reducible refine eok_cons ?_ ?_); (first | exact Or.inl (by decide +kernel) | exact Or.inr (by simp [h4, fr, fr1, a.kinds.len, a.loans.len, r, l1, hi, hw, hb, hn, hwk, q1, q2, q3, q4, q5, he, hg, hg.1])))
                | with_reducible refine eok_and ?_ ?_
                | simp -implicitDefEqProofs [h4, fr, fr1, a.kinds.len, a.loans.len, r, l1, hi, hw, hb, hn, hwk, q1, q2, q3, q4, q5, he, hg, hg.1])
            | true =>
              have := all_succ hall2 (show badLoan s.kinds.length (gL s i) = false by simp [badLoan, q1, q2, q3, q4, q5])
              repeat (first
                | with_reducible refine call_step (within55 _ _ _ _) ?_
                | with_reducible refine draw_enter ?_
                | with_reducible refine q_call (within55 _ _ _ _) ROk.refl ?_
                | with_reducible exact rok_nil
                | ((with_reducible refine rok_cons ?_ ?_); (first | exact Or.inl (by decide +kernel) | exact Or.inr (by simp [h4, fr, fr1, a.kinds.len, a.loans.len, r, l1, hi, hw, hb, hn, hwk, q1, q2, q3, q4, q5, show h.n + 1 ≤ h2.n from hn])))
                | with_reducible refine rok_and ?_ ?_
                | ((with_reducible refine eok_cons ?_ ?_); (first | exact Or.inl (by decide +kernel) | exact Or.inr (by simp [h4, fr, fr1, a.kinds.len, a.loans.len, r, l1, hi, hw, hb, hn, hwk, q1, q2, q3, q4, q5, show h.n + 1 ≤ h2.n from hn])))
                | with_reducible refine eok_and ?_ ?_
                | simp -implicitDefEqProofs [h4, fr, fr1, a.kinds.len, a.loans.len, r, l1, hi, hw, hb, hn, hwk, q1, q2, q3, q4, q5, show h.n + 1 ≤ h2.n from hn])
              exact this
  · rintro f h2 ⟨h4, hall2⟩ fr hu
    have hg : Grow h h2 := hu.grow hg1 (by simp)
    have hb : h2.g h.n = .row true 2 [kv, lv] := by rw [hu.2 _ (by simp)]; exact hb1
    have hn : h.n < h2.n := by have := hu.1; omega
    have he : errStore s = 0 := by simp [errStore, okStore_of k8 l20 hall hall2]
    repeat (first
      | with_reducible refine draw_enter ?_
      | with_reducible exact rok_nil
      | ((with_reducible refine rok_cons ?_ ?_); (first | exact Or.inl (by decide +kernel) | exact Or.inr (by simp [h4, fr, fr1, a.loans.len, hb, hn, he, hg])))
      | with_reducible refine rok_and ?_ ?_
      | ((with_reducible refine eok_cons ?_ ?_); (first | exact Or.inl (by decide +kernel) | exact Or.inr (by simp [h4, fr, fr1, a.loans.len, hb, hn, he, hg])))
      | with_reducible refine eok_and ?_ ?_
      | simp -implicitDefEqProofs [h4, fr, fr1, a.loans.len, hb, hn, he, hg])
theorem ok91 : codeOk Try.f91.ntmps (bodyOf Try.f91) = true := by kernel_rfl
theorem isPlan_call {h : Hp} {kv lv pv : Value} {s : Store} {plan : List Int} (a : StoreAt h kv lv s) (o : StoreOk s) (p : SlOk h pv 1 plan.length (plan.map I)) : CallX Try.prog 91 #[.agg #[kv, lv], pv] h (.bool (okPlan s plan)) h := by
  refine run_flat Tok hm Try.func91 (by kernel_rfl) (by kernel_rfl) ok91 (Nat.le_of_ble_eq_true rfl) ?_
  by_cases hl : plan.length = s.loans.length
  case neg =>
    have hp := okPlan_len hl
    repeat (first
      | with_reducible refine draw_enter ?_
      | with_reducible exact rok_nil
      | ((with_reducible refine rok_cons ?_ ?_); (first | exact Or.inl (by decide +kernel) | exact Or.inr (by simp [bodyOf, Try.f91, p.len, a.loans.len, hl, hp])))
      | with_reducible refine rok_and ?_ ?_
      | ((with_reducible refine eok_cons ?_ ?_); (first | exact Or.inl (by decide +kernel) | exact Or.inr (by simp [bodyOf, Try.f91, p.len, a.loans.len, hl, hp])))
      | with_reducible refine eok_and ?_ ?_
      | simp -implicitDefEqProofs [bodyOf, Try.f91, p.len, a.loans.len, hl, hp])
  repeat (first
    | with_reducible refine draw_enter ?_
    | with_reducible exact rok_nil
    | ((with_reducible refine rok_cons ?_ ?_); (first | exact Or.inl (by decide +kernel) | exact Or.inr (by simp [bodyOf, Try.f91, p.len, a.loans.len, hl])))
    | with_reducible refine rok_and ?_ ?_
    | ((with_reducible refine eok_cons ?_ ?_); (first | exact Or.inl (by decide +kernel) | exact Or.inr (by simp [bodyOf, Try.f91, p.len, a.loans.len, hl])))
    | with_reducible refine eok_and ?_ ?_
    | simp -implicitDefEqProofs [bodyOf, Try.f91, p.len, a.loans.len, hl])
  have l20 := o.l20
  refine run_for Tok hm (by kernel_rfl) [4, 5, 12, 13, 14, 15, 16, 17, 18, 19, 20, 21, 22, 23, 24, 25, 26, 27, 28, 29, 30, 31, 32, 33, 34, 35] (by kernel_rfl) (h.n + 1) plan.length (fun i f h1 => f 5 = I i ∧ ∀ j, j < i → planAt s plan j = true) ?_ ?_ ?_
  · simp
  · rintro i f h1 hi ⟨h5, hall⟩ fr hu
    have hg : Grow h h1 := hu.grow (by simp) (by simp)
    have hb : h1.g h.n = .row true 2 [kv, lv] := by rw [hu.2 _ (by simp)]; simp
    have hn : h.n < h1.n := by have := hu.1; simp at this; omega
    have a1 := a.grow hg
    have p1 := p.grow hg
    have hi2 : i < s.loans.length := hl ▸ hi
    have r1 := p1.ref (by omega)
    have r2 := a1.loans.ref (by omega)
    have l1 := ld_int p1 hi
    have l2 := ld_loanK a1 hi2
    have hw := wrap_succ hi (by omega)
    have hk := o.kind i hi2
    have hkn : (gL s i).kind.toNat < s.kinds.length := by omega
    have hit := o.items _ hkn
    have r3 := a1.kinds.ref (by omega)
    have l3 := ld_items a1 hkn
    have hw3 : IntKind.i64.wrap ((gK s (gL s i).kind.toNat).items - 1) = (gK s (gL s i).kind.toNat).items - 1 := IntWalk.i64_in _ (by omega)
    cases hp : planAt s plan i with
    | true =>
      have hp2 := hp
      simp only [planAt] at hp2
      repeat (first
        | with_reducible refine call_step (within55 _ _ _ _) ?_
        | with_reducible refine draw_enter ?_
        | with_reducible refine q_call (within55 _ _ _ _) ROk.refl ?_
        | with_reducible exact rok_nil
        | ((with_reducible refine rok_cons ?_ ?_); (first | exact Or.inl (by decide +kernel) | exact Or.inr (by simp [h5, fr, p.len, hl, r1, r2, r3, l1, l2, l3, hi, hi2, hw, hw3, hb, hn, hk.1, hk.2, a1.kinds.vr, a1.loans.vr, hp2])))
        | with_reducible refine rok_and ?_ ?_
        | ((with_reducible refine eok_cons ?_ ?_); (first | exact Or.inl (by decide +kernel) | exact Or.inr (by simp [h5, fr, p.len, hl, r1, r2, r3, l1, l2, l3, hi, hi2, hw, hw3, hb, hn, hk.1, hk.2, a1.kinds.vr, a1.loans.vr, hp2])))
        | with_reducible refine eok_and ?_ ?_
        | simp -implicitDefEqProofs [h5, fr, p.len, hl, r1, r2, r3, l1, l2, l3, hi, hi2, hw, hw3, hb, hn, hk.1, hk.2, a1.kinds.vr, a1.loans.vr, hp2])
      exact all_succ hall hp
    | false =>
      have hp2 := hp
      simp only [planAt] at hp2
      have hp := okPlan_false hi hp
      repeat (first
        | with_reducible refine call_step (within55 _ _ _ _) ?_
        | with_reducible refine draw_enter ?_
        | with_reducible refine q_call (within55 _ _ _ _) ROk.refl ?_
        | with_reducible exact rok_nil
        | ((with_reducible refine rok_cons ?_ ?_); (first | exact Or.inl (by decide +kernel) | exact Or.inr (by simp [h5, fr, p.len, hl, r1, r2, r3, l1, l2, l3, hi, hi2, hw, hw3, hb, hn, hk.1, hk.2, a1.kinds.vr, a1.loans.vr, hp2, hp, hg])))
        | with_reducible refine rok_and ?_ ?_
        | ((with_reducible refine eok_cons ?_ ?_); (first | exact Or.inl (by decide +kernel) | exact Or.inr (by simp [h5, fr, p.len, hl, r1, r2, r3, l1, l2, l3, hi, hi2, hw, hw3, hb, hn, hk.1, hk.2, a1.kinds.vr, a1.loans.vr, hp2, hp, hg])))
        | with_reducible refine eok_and ?_ ?_
        | simp -implicitDefEqProofs [h5, fr, p.len, hl, r1, r2, r3, l1, l2, l3, hi, hi2, hw, hw3, hb, hn, hk.1, hk.2, a1.kinds.vr, a1.loans.vr, hp2, hp, hg])
  · rintro f h1 ⟨h21, hall⟩ fr hu
    have hg : Grow h h1 := hu.grow (by simp) (by simp)
    have hp := okPlan_true hl hall
    repeat (first
      | with_reducible refine draw_enter ?_
      | with_reducible exact rok_nil
      | ((with_reducible refine rok_cons ?_ ?_); (first | exact Or.inl (by decide +kernel) | exact Or.inr (by simp [h21, fr, p.len, hl, hp, hg])))
      | with_reducible refine rok_and ?_ ?_
      | ((with_reducible refine eok_cons ?_ ?_); (first | exact Or.inl (by decide +kernel) | exact Or.inr (by simp [h21, fr, p.len, hl, hp, hg])))
      | with_reducible refine eok_and ?_ ?_
      | simp -implicitDefEqProofs [h21, fr, p.len, hl, hp, hg])
theorem ok66 : codeOk Try.f66.ntmps (bodyOf Try.f66) = true := by kernel_rfl
theorem checkPlan66 {h : Hp} {kv lv pv : Value} {s : Store} {plan : List Int} (a : StoreAt h kv lv s) (p : SlOk h pv 1 plan.length (plan.map I)) : CallX Try.prog 66 #[.agg #[kv, lv], pv] h (I (errPlan s plan)) h := by
  refine run_flat Tok hm Try.func66 (by kernel_rfl) (by kernel_rfl) ok66 (Nat.le_of_ble_eq_true rfl) ?_
  by_cases o : StoreOk s
  case neg =>
    have he := okStore_false o
    repeat (first
      | with_reducible refine call_step (check30 (a.grow (by simp))) ?_
      | with_reducible refine draw_enter ?_
      | with_reducible refine q_call (check30 (a.grow (by simp))) ROk.refl ?_
      | with_reducible exact rok_nil
      | ((with_reducible refine rok_cons ?_ ?_); (first | exact Or.inl (by decide +kernel) | exact Or.inr (by simp [bodyOf, Try.f66, errPlan, errStore, he])))
      | with_reducible refine rok_and ?_ ?_
      | ((with_reducible refine eok_cons ?_ ?_); (first | exact Or.inl (by decide +kernel) | exact Or.inr (by simp [bodyOf, Try.f66, errPlan, errStore, he])))
      | with_reducible refine eok_and ?_ ?_
      | simp -implicitDefEqProofs [bodyOf, Try.f66, errPlan, errStore, he])
  have he := okStore_iff.2 o
  cases hp : okPlan s plan
  all_goals
    repeat (first
      | with_reducible refine call_step (check30 (a.grow (by simp))) ?_
      | with_reducible refine call_step (isPlan_call (a.grow (by simp)) o (p.grow (by simp))) ?_
      | with_reducible refine draw_enter ?_
      | with_reducible refine q_call (check30 (a.grow (by simp))) ROk.refl ?_
      | with_reducible refine q_call (isPlan_call (a.grow (by simp)) o (p.grow (by simp))) ROk.refl ?_
      | with_reducible exact rok_nil
      | ((with_reducible refine rok_cons ?_ ?_); (first | exact Or.inl (by decide +kernel) | exact Or.inr (by simp [bodyOf, Try.f66, errPlan, errStore, he, hp])))
      | with_reducible refine rok_and ?_ ?_
      | ((with_reducible refine eok_cons ?_ ?_); (first | exact Or.inl (by decide +kernel) | exact Or.inr (by simp [bodyOf, Try.f66, errPlan, errStore, he, hp])))
      | with_reducible refine eok_and ?_ ?_
      | simp -implicitDefEqProofs [bodyOf, Try.f66, errPlan, errStore, he, hp])
end Go.Proofs
