/- Part of the proofs of the laws (see the last text of a claim): contracts of functions. -/
import Derived.Test.YtohooekinfpkbaaStE
set_option linter.unusedSimpArgs false
set_option linter.unusedVariables false
open Go Go.Fw
namespace Go.Proofs
attribute [local irreducible] Run RunOps RunDraw pop condK guardK guardKD resK drawK RunD dK gK
set_option maxRecDepth 4000
def planAt (s : Store) (plan : List Int) (i : Nat) : Bool := within (gI plan i) (-1) ((gK s (gL s i).kind.toNat).items - 1)
def okPlan (s : Store) (plan : List Int) : Bool := decide (plan.length = s.loans.length) && (List.range plan.length).all (planAt s plan)
def errPlan (s : Store) (plan : List Int) : Int := if okStore s then (if okPlan s plan then 0 else 1) else 100
theorem okPlan_true {s : Store} {plan : List Int} (hl : plan.length = s.loans.length) (h : ∀ j, j < plan.length → planAt s plan j = true) : okPlan s plan = true := by
  simp only [okPlan, hl, decide_true, Bool.true_and, List.all_eq_true, List.mem_range]
  exact fun j hj => h j (by omega)
theorem okPlan_false {s : Store} {plan : List Int} {i : Nat} (hi : i < plan.length) (h : planAt s plan i = false) : okPlan s plan = false := by
  cases ho : okPlan s plan with
  | false => rfl
  | true =>
    simp only [okPlan, Bool.and_eq_true, List.all_eq_true, List.mem_range] at ho
    rw [ho.2 i hi] at h
    cases h
theorem okPlan_len {s : Store} {plan : List Int} (h : ¬ plan.length = s.loans.length) : okPlan s plan = false := by simp [okPlan, h]
theorem ok62 : codeOk Try.f62.ntmps (bodyOf Try.f62) = true := by kernel_rfl
theorem checked_call {h : Hp} {kv lv pv : Value} {s : Store} {plan : List Int} (a : StoreAt h kv lv s) (p : SlOk h pv 1 plan.length (plan.map I)) : CallX Try.prog 62 #[.agg #[kv, lv], pv] h (I (errPlan s plan)) h := by
  refine run_flat Tok hm Try.func62 (by kernel_rfl) (by kernel_rfl) ok62 (Nat.le_of_ble_eq_true rfl) ?_
  by_cases o : StoreOk s
  case neg =>
    have he := okStore_false o
    repeat (first
      | with_reducible refine call_step (check29 (a.grow (by simp))) ?_
      | with_reducible refine draw_enter ?_
      | with_reducible refine q_call (check29 (a.grow (by simp))) ROk.refl ?_
      | with_reducible exact rok_nil
      | ((with_reducible refine rok_cons ?_ ?_); (first | exact Or.inl (by decide +kernel) | exact Or.inr (by simp [bodyOf, Try.f62, errPlan, errStore, he])))
      | with_reducible refine rok_and ?_ ?_
      | ((with_reducible refine eok_cons ?_ ?_); (first | exact Or.inl (by decide +kernel) | exact Or.inr (by simp [bodyOf, Try.f62, errPlan, errStore, he])))
      | with_reducible refine eok_and ?_ ?_
      | simp -implicitDefEqProofs [bodyOf, Try.f62, errPlan, errStore, he])
  have he := okStore_iff.2 o
  by_cases hl : plan.length = s.loans.length
  case neg =>
    have hp := okPlan_len hl
    repeat (first
      | with_reducible refine call_step (check29 (a.grow (by simp))) ?_
      | with_reducible refine draw_enter ?_
      | with_reducible refine q_call (check29 (a.grow (by simp))) ROk.refl ?_
      | with_reducible exact rok_nil
      | ((with_reducible refine rok_cons ?_ ?_); (first | exact Or.inl (by decide +kernel) | exact Or.inr (by simp [bodyOf, Try.f62, errPlan, errStore, he, p.len, a.loans.len, hl, hp])))
      | with_reducible refine rok_and ?_ ?_
      | ((with_reducible refine eok_cons ?_ ?_); (first | exact Or.inl (by decide +kernel) | exact Or.inr (by simp [bodyOf, Try.f62, errPlan, errStore, he, p.len, a.loans.len, hl, hp])))
      | with_reducible refine eok_and ?_ ?_
      | simp -implicitDefEqProofs [bodyOf, Try.f62, errPlan, errStore, he, p.len, a.loans.len, hl, hp])
  repeat (first
    | with_reducible refine call_step (check29 (a.grow (by simp))) ?_
    | with_reducible refine draw_enter ?_
    | with_reducible refine q_call (check29 (a.grow (by simp))) ROk.refl ?_
    | with_reducible exact rok_nil
    | ((with_reducible refine rok_cons ?_ ?_); (first | exact Or.inl (by decide +kernel) | exact Or.inr (by simp [bodyOf, Try.f62, errStore, he, p.len, a.loans.len, hl])))
    | with_reducible refine rok_and ?_ ?_
    | ((with_reducible refine eok_cons ?_ ?_); (first | exact Or.inl (by decide +kernel) | exact Or.inr (by simp [bodyOf, Try.f62, errStore, he, p.len, a.loans.len, hl])))
    | with_reducible refine eok_and ?_ ?_
    | simp -implicitDefEqProofs [bodyOf, Try.f62, errStore, he, p.len, a.loans.len, hl])
  have l20 := o.l20
  refine run_for Tok hm (by kernel_rfl) [4, 6, 7, 21, 22, 23, 24, 25, 26, 27, 28, 29, 30, 31, 32, 33, 34, 35, 36, 37, 38, 39, 40] (by kernel_rfl) (h.n + 1) plan.length (fun i f h1 => f 21 = I i ∧ ∀ j, j < i → planAt s plan j = true) ?_ ?_ ?_
  · simp
  · rintro i f h1 hi ⟨h21, hall⟩ fr hu
    have hg : Grow h h1 := hu.grow (by simp) (by simp)
    have hb : h1.g h.n = .row true 2 [kv, lv] := by rw [hu.2 _ (by simp)]; simp
    have hn : h.n < h1.n := by have := hu.1; simp at this; omega
    have a1 := a.grow hg
    have p1 := p.grow hg
    have hi2 : i < s.loans.length := hl ▸ hi
    have r1 := p1.ref (by omega)
    have r2 := a1.loans.ref (by omega)
    have l1 := ld_int p1 hi
    have l2 := ld_loanK a1 hi2
    have hw := wrap_succ hi (by omega)
    have hk := o.kind i hi2
    have hkn : (gL s i).kind.toNat < s.kinds.length := by omega
    have hit := o.items _ hkn
    by_cases hm : gI plan i = -1
    · have hp : planAt s plan i = true := by simp only [planAt, within_iff, hm]; omega
      repeat (first
        | with_reducible refine draw_enter ?_
        | with_reducible exact rok_nil
        | ((with_reducible refine rok_cons ?_ ?_); (first | exact Or.inl (by decide +kernel) | exact Or.inr (by simp [h21, fr, p.len, hl, r1, r2, l1, l2, hi, hi2, hw, hm, hb, hn, a1.kinds.vr, a1.loans.vr])))
        | with_reducible refine rok_and ?_ ?_
        | ((with_reducible refine eok_cons ?_ ?_); (first | exact Or.inl (by decide +kernel) | exact Or.inr (by simp [h21, fr, p.len, hl, r1, r2, l1, l2, hi, hi2, hw, hm, hb, hn, a1.kinds.vr, a1.loans.vr])))
        | with_reducible refine eok_and ?_ ?_
        | simp -implicitDefEqProofs [h21, fr, p.len, hl, r1, r2, l1, l2, hi, hi2, hw, hm, hb, hn, a1.kinds.vr, a1.loans.vr])
      exact all_succ hall hp
    · cases hw2 : within (gI plan i) 0 ((gK s (gL s i).kind.toNat).items - 1) with
      | true =>
        have hp : planAt s plan i = true := by simp only [planAt, within_iff] at hw2 ⊢; omega
        repeat (first
          | with_reducible refine call_step (item_call (a.grow (by simp [hg])) o _ hk.1 hk.2 _) ?_
          | with_reducible refine draw_enter ?_
          | with_reducible refine q_call (item_call (a.grow (by simp [hg])) o _ hk.1 hk.2 _) ROk.refl ?_
          | with_reducible exact rok_nil
          | ((with_reducible refine rok_cons ?_ ?_); (first | exact Or.inl (by decide +kernel) | exact Or.inr (by simp [h21, fr, p.len, hl, r1, r2, l1, l2, hi, hi2, hw, hm, hb, hn, a1.kinds.vr, a1.loans.vr, hw2])))
          | with_reducible refine rok_and ?_ ?_
          | ((with_reducible refine eok_cons ?_ ?_); (first | exact Or.inl (by decide +kernel) | exact Or.inr (by simp [h21, fr, p.len, hl, r1, r2, l1, l2, hi, hi2, hw, hm, hb, hn, a1.kinds.vr, a1.loans.vr, hw2])))
          | with_reducible refine eok_and ?_ ?_
          | simp -implicitDefEqProofs [h21, fr, p.len, hl, r1, r2, l1, l2, hi, hi2, hw, hm, hb, hn, a1.kinds.vr, a1.loans.vr, hw2])
        exact all_succ hall hp
      | false =>
        have hp : planAt s plan i = false := by
          cases hq : planAt s plan i with
          | false => rfl
          | true =>
            simp only [planAt, within_iff] at hq
            have : within (gI plan i) 0 ((gK s (gL s i).kind.toNat).items - 1) = true := by rw [within_iff]; omega
            rw [this] at hw2
            cases hw2
        have hp := okPlan_false hi hp
        repeat (first
          | with_reducible refine call_step (item_call (a.grow (by simp [hg])) o _ hk.1 hk.2 _) ?_
          | with_reducible refine draw_enter ?_
          | with_reducible refine q_call (item_call (a.grow (by simp [hg])) o _ hk.1 hk.2 _) ROk.refl ?_
          | with_reducible exact rok_nil
          | ((with_reducible refine rok_cons ?_ ?_); (first | exact Or.inl (by decide +kernel) | exact Or.inr (by simp [h21, fr, p.len, hl, r1, r2, l1, l2, hi, hi2, hw, hm, hb, hn, a1.kinds.vr, a1.loans.vr, hw2, errPlan, he, hp, hg])))
          | with_reducible refine rok_and ?_ ?_
          | ((with_reducible refine eok_cons ?_ ?_); (first | exact Or.inl (by decide +kernel) | exact Or.inr (by simp [h21, fr, p.len, hl, r1, r2, l1, l2, hi, hi2, hw, hm, hb, hn, a1.kinds.vr, a1.loans.vr, hw2, errPlan, he, hp, hg])))
          | with_reducible refine eok_and ?_ ?_
          | simp -implicitDefEqProofs [h21, fr, p.len, hl, r1, r2, l1, l2, hi, hi2, hw, hm, hb, hn, a1.kinds.vr, a1.loans.vr, hw2, errPlan, he, hp, hg])
  · rintro f h1 ⟨h21, hall⟩ fr hu
    have hg : Grow h h1 := hu.grow (by simp) (by simp)
    have hp := okPlan_true hl hall
    repeat (first
      | with_reducible refine draw_enter ?_
      | with_reducible exact rok_nil
      | ((with_reducible refine rok_cons ?_ ?_); (first | exact Or.inl (by decide +kernel) | exact Or.inr (by simp [h21, fr, p.len, hl, errPlan, he, hp, hg])))
      | with_reducible refine rok_and ?_ ?_
      | ((with_reducible refine eok_cons ?_ ?_); (first | exact Or.inl (by decide +kernel) | exact Or.inr (by simp [h21, fr, p.len, hl, errPlan, he, hp, hg])))
      | with_reducible refine eok_and ?_ ?_
      | simp -implicitDefEqProofs [h21, fr, p.len, hl, errPlan, he, hp, hg])
end Go.Proofs
