/- Part of the proofs of the laws (see the last text of a claim): contracts of functions, and what they are shown with. -/
import Derived.Test.YtohooekinfpkbaaSa
set_option linter.unusedSimpArgs false
set_option linter.unusedVariables false
open Go Go.Fw
namespace Go.Proofs
attribute [local irreducible] Run RunOps RunDraw pop condK guardK guardKD resK drawK RunD dK gK
set_option maxRecDepth 4000
def takenAt (s : Store) (plan : List Int) (n : Int) (w : Loan) (j : Nat) : Bool := decide (gI plan j = n) && overlap (gL s j) w
def taken (s : Store) (plan : List Int) (n : Int) (w : Loan) (k : Nat) : Bool := (List.range k).any (takenAt s plan n w)
theorem taken_succ {s : Store} {plan : List Int} {n : Int} {w : Loan} {k : Nat} : taken s plan n w (k + 1) = (taken s plan n w k || takenAt s plan n w k) := by simp [taken, List.range_succ]
def freeL (s : Store) (plan : List Int) (w : Loan) (k : Nat) : List Int := ((List.range k).filter fun (n : Nat) => !taken s plan n w s.loans.length).map fun (n : Nat) => (n : Int)
theorem freeL_succ {s : Store} {plan : List Int} {w : Loan} {k : Nat} : freeL s plan w (k + 1) = freeL s plan w k ++ (if taken s plan k w s.loans.length then [] else [(k : Int)]) := by
  simp only [freeL, List.range_succ, List.filter_append, List.map_append]
  cases h : taken s plan k w s.loans.length <;> simp [List.filter_cons, h]
theorem freeL_len {s : Store} {plan : List Int} {w : Loan} {k : Nat} : (freeL s plan w k).length ≤ k := by
  simp only [freeL, List.length_map]
  exact Nat.le_trans (List.length_filter_le _ _) (by simp)
def errFree (s : Store) (plan : List Int) (kind from_ to : Int) : Int :=
  if errPlan s plan ≠ 0 then errPlan s plan else if within kind 0 (s.kinds.length - 1) && within to 1 1440 && within from_ 0 (to - 1) then 0 else 1
def freeOf (s : Store) (plan : List Int) (kind from_ to : Int) : List Int :=
  if errFree s plan kind from_ to = 0 then freeL s plan ⟨kind, 0, from_, to, 0⟩ (gK s kind.toNat).items.toNat else []
/-- An error and a list of numbers. -/
def GivesInts (h : Hp) (e : Int) (l : List Int) (v : Value) (h' : Hp) : Prop := ∃ sl, v = .tuple #[sl, I e] ∧ Grow h h' ∧ Acc h.n h' 1 sl l.length (l.map I)
theorem errPlan_ok {s : Store} {plan : List Int} (h : errPlan s plan = 0) : StoreOk s ∧ okPlan s plan = true := by
  unfold errPlan at h
  split at h
  · rename_i h1
    split at h
    · rename_i h2
      exact ⟨okStore_iff.1 h1, h2⟩
    · cases h
  · cases h
theorem okPlan_length {s : Store} {plan : List Int} (h : okPlan s plan = true) : plan.length = s.loans.length := by
  simp only [okPlan, Bool.and_eq_true, decide_eq_true_eq] at h
  exact h.1
theorem SlOk.nil {h : Hp} : SlOk h (.slice none 0 0) 1 0 [] := ⟨rfl, rfl, by simp, by simp, by simp, .same rfl, Nat.le_refl _⟩
theorem GivesInts.nil {h h' : Hp} {e : Int} {l : List Int} (g : Grow h h') (hl : l = []) : GivesInts h e l (.tuple #[.slice none 0 0, I e]) h' := by
  subst hl
  exact ⟨_, rfl, g, .nil⟩
theorem ok27 : codeOk Try.f27.ntmps (bodyOf Try.f27) = true := by kernel_rfl
theorem free27 {h : Hp} {kv lv pv : Value} {s : Store} {plan : List Int} (a : StoreAt h kv lv s) (p : SlOk h pv 1 plan.length (plan.map I)) (kind from_ to : Int) :
    ∃ v h', CallX Try.prog 27 #[.agg #[kv, lv], pv, I kind, I from_, I to] h v h' ∧ GivesInts h (errFree s plan kind from_ to) (freeOf s plan kind from_ to) v h' := by
  refine run_any Tok hm Try.func27 (by kernel_rfl) (by kernel_rfl) ok27 (Nat.le_of_ble_eq_true rfl) ?_
  by_cases he : errPlan s plan = 0
  case neg =>
    have h1 : errFree s plan kind from_ to = errPlan s plan := by simp [errFree, he]
    repeat (first
      | with_reducible refine call_step (checked_call (a.grow (by simp)) (p.grow (by simp))) ?_
      | with_reducible refine draw_enter ?_
      | with_reducible refine q_call (checked_call (a.grow (by simp)) (p.grow (by simp))) ROk.refl ?_
      | with_reducible exact rok_nil
      | ((with_reducible refine rok_cons ?_ ?_); (first | exact Or.inl (by decide +kernel) | exact Or.inr (by simp [bodyOf, Try.f27, he, h1]) | exact Or.inr (fun hlt => by simp [kill_none, Hp.alloc_g, Nat.ne_of_lt hlt])))
      | with_reducible refine rok_and ?_ ?_
      | ((with_reducible refine eok_cons ?_ ?_); (first | exact Or.inl (by decide +kernel) | exact Or.inr (by simp [bodyOf, Try.f27, he, h1]) | exact Or.inr (fun hlt => by simp [kill_none, Hp.alloc_g, Nat.ne_of_lt hlt])))
      | with_reducible refine eok_and ?_ ?_
      | simp -implicitDefEqProofs [bodyOf, Try.f27, he, h1])
    exact GivesInts.nil (by simp) (by simp [freeOf, h1, he])
  obtain ⟨o, hp⟩ := errPlan_ok he
  have hl := okPlan_length hp
  have l20 := o.l20
  cases q1 : within kind 0 (s.kinds.length - 1) with
  | false =>
    have h1 : errFree s plan kind from_ to = 1 := by simp [errFree, he, q1]
    repeat (first
      | with_reducible refine call_step (checked_call (a.grow (by simp)) (p.grow (by simp))) ?_
      | with_reducible refine call_step (kinded_call (a.grow (by simp)) o _) ?_
      | with_reducible refine draw_enter ?_
      | with_reducible refine q_call (checked_call (a.grow (by simp)) (p.grow (by simp))) ROk.refl ?_
      | with_reducible refine q_call (kinded_call (a.grow (by simp)) o _) ROk.refl ?_
      | with_reducible exact rok_nil
      | ((with_reducible refine rok_cons ?_ ?_); (first | exact Or.inl (by decide +kernel) | exact Or.inr (by simp [bodyOf, Try.f27, he, h1, q1]) | exact Or.inr (fun hlt => by simp [kill_none, Hp.alloc_g, Nat.ne_of_lt hlt])))
      | with_reducible refine rok_and ?_ ?_
      | ((with_reducible refine eok_cons ?_ ?_); (first | exact Or.inl (by decide +kernel) | exact Or.inr (by simp [bodyOf, Try.f27, he, h1, q1]) | exact Or.inr (fun hlt => by simp [kill_none, Hp.alloc_g, Nat.ne_of_lt hlt])))
      | with_reducible refine eok_and ?_ ?_
      | simp -implicitDefEqProofs [bodyOf, Try.f27, he, h1, q1])
    exact GivesInts.nil (by simp) (by simp [freeOf, h1, he])
  | true =>
  cases q2 : within to 1 1440 with
  | false =>
    have h1 : errFree s plan kind from_ to = 1 := by simp [errFree, he, q2]
    repeat (first
      | with_reducible refine call_step (checked_call (a.grow (by simp)) (p.grow (by simp))) ?_
      | with_reducible refine call_step (kinded_call (a.grow (by simp)) o _) ?_
      | with_reducible refine call_step (within_call _ _ _ _) ?_
      | with_reducible refine draw_enter ?_
      | with_reducible refine q_call (checked_call (a.grow (by simp)) (p.grow (by simp))) ROk.refl ?_
      | with_reducible refine q_call (kinded_call (a.grow (by simp)) o _) ROk.refl ?_
      | with_reducible refine q_call (within_call _ _ _ _) ROk.refl ?_
      | with_reducible exact rok_nil
      | ((with_reducible refine rok_cons ?_ ?_); (first | exact Or.inl (by decide +kernel) | exact Or.inr (by simp [bodyOf, Try.f27, he, h1, q1, q2]) | exact Or.inr (fun hlt => by simp [kill_none, Hp.alloc_g, Nat.ne_of_lt hlt])))
      | with_reducible refine rok_and ?_ ?_
      | ((with_reducible refine eok_cons ?_ ?_); (first | exact Or.inl (by decide +kernel) | exact Or.inr (by simp [bodyOf, Try.f27, he, h1, q1, q2]) | exact Or.inr (fun hlt => by simp [kill_none, Hp.alloc_g, Nat.ne_of_lt hlt])))
      | with_reducible refine eok_and ?_ ?_
      | simp -implicitDefEqProofs [bodyOf, Try.f27, he, h1, q1, q2])
    exact GivesInts.nil (by simp) (by simp [freeOf, h1, he])
  | true =>
  have hto := within_iff.1 q2
  have hwt : IntKind.i64.wrap (to - 1) = to - 1 := IntWalk.i64_in _ (by omega)
  cases q3 : within from_ 0 (to - 1) with
  | false =>
    have h1 : errFree s plan kind from_ to = 1 := by simp [errFree, he, q3]
    repeat (first
      | with_reducible refine call_step (checked_call (a.grow (by simp)) (p.grow (by simp))) ?_
      | with_reducible refine call_step (kinded_call (a.grow (by simp)) o _) ?_
      | with_reducible refine call_step (within_call _ _ _ _) ?_
      | with_reducible refine draw_enter ?_
      | with_reducible refine q_call (checked_call (a.grow (by simp)) (p.grow (by simp))) ROk.refl ?_
      | with_reducible refine q_call (kinded_call (a.grow (by simp)) o _) ROk.refl ?_
      | with_reducible refine q_call (within_call _ _ _ _) ROk.refl ?_
      | with_reducible exact rok_nil
      | ((with_reducible refine rok_cons ?_ ?_); (first | exact Or.inl (by decide +kernel) | exact Or.inr (by simp [bodyOf, Try.f27, he, h1, q1, q2, q3, hwt]) | exact Or.inr (fun hlt => by simp [kill_none, Hp.alloc_g, Nat.ne_of_lt hlt])))
      | with_reducible refine rok_and ?_ ?_
      | ((with_reducible refine eok_cons ?_ ?_); (first | exact Or.inl (by decide +kernel) | exact Or.inr (by simp [bodyOf, Try.f27, he, h1, q1, q2, q3, hwt]) | exact Or.inr (fun hlt => by simp [kill_none, Hp.alloc_g, Nat.ne_of_lt hlt])))
      | with_reducible refine eok_and ?_ ?_
      | simp -implicitDefEqProofs [bodyOf, Try.f27, he, h1, q1, q2, q3, hwt])
    exact GivesInts.nil (by simp) (by simp [freeOf, h1, he])
  | true =>
  have h1' : errFree s plan kind from_ to = 0 := by simp [errFree, he, q1, q2, q3]
  have hk := within_iff.1 q1
  have hkn : kind.toNat < s.kinds.length := by omega
  have hit := o.items _ hkn
  obtain ⟨N, hN⟩ : ∃ N : Nat, (gK s kind.toNat).items = N := ⟨(gK s kind.toNat).items.toNat, by omega⟩
  have r1 := a.kinds.ref (by omega)
  have lt1 := a.kinds.lt (by omega)
  have l1 := ld_items a hkn
  have hki : kind < s.kinds.length := by omega
  repeat (first
    | with_reducible refine call_step (checked_call (a.grow (by simp)) (p.grow (by simp))) ?_
    | with_reducible refine call_step (kinded_call (a.grow (by simp)) o _) ?_
    | with_reducible refine call_step (within_call _ _ _ _) ?_
    | with_reducible refine draw_enter ?_
    | with_reducible refine q_call (checked_call (a.grow (by simp)) (p.grow (by simp))) ROk.refl ?_
    | with_reducible refine q_call (kinded_call (a.grow (by simp)) o _) ROk.refl ?_
    | with_reducible refine q_call (within_call _ _ _ _) ROk.refl ?_
    | with_reducible exact rok_nil
    | ((with_reducible refine rok_cons ?_ ?_); (first | exact Or.inl (by decide +kernel) | exact Or.inr (by simp [bodyOf, Try.f27, he, q1, q2, q3, hwt, r1, l1, hk.1, hki, lt1, hN]) | exact Or.inr (fun hlt => by simp [kill_none, Hp.alloc_g, Nat.ne_of_lt hlt])))
    | with_reducible refine rok_and ?_ ?_
    | ((with_reducible refine eok_cons ?_ ?_); (first | exact Or.inl (by decide +kernel) | exact Or.inr (by simp [bodyOf, Try.f27, he, q1, q2, q3, hwt, r1, l1, hk.1, hki, lt1, hN]) | exact Or.inr (fun hlt => by simp [kill_none, Hp.alloc_g, Nat.ne_of_lt hlt])))
    | with_reducible refine eok_and ?_ ?_
    | simp -implicitDefEqProofs [bodyOf, Try.f27, he, q1, q2, q3, hwt, r1, l1, hk.1, hki, lt1, hN])
  obtain ⟨w, hw0⟩ : ∃ w : Loan, w = ⟨kind, 0, from_, to, 0⟩ := ⟨_, rfl⟩
  have hwc : w.cells = [I kind, I 0, I from_, I to, I 0] := by rw [hw0]
  refine run_for Tok hm (by kernel_rfl) [10, 14, 15, 16, 17, 50, 51, 52, 53, 54, 55, 56, 57, 58, 59, 60, 61, 62, 63, 64, 65, 66, 67, 68, 69, 70, 71, 72, 73, 74, 75, 76, 77, 78, 79, 80, 81, 82] (by kernel_rfl) (h.n + 2) N (fun k f h1 => f 50 = I k ∧ Acc (h.n + 2) h1 1 (f 10) (freeL s plan w k).length ((freeL s plan w k).map I)) ?_ ?_ ?_
  · exact ⟨by simp, by simpa [freeL] using Acc.nil⟩
  · rintro k f h1 hkN ⟨h50, hacc⟩ fr hu
    have hg : Grow h h1 := hu.grow (by simp) (by simp)
    have hb : h1.g h.n = .row true 2 [kv, lv] := by rw [hu.2 _ (by simp)]; simp
    have hb2 : h1.g (h.n + 1) = .row true 5 w.cells := by rw [hu.2 _ (by simp)]; simp [hwc]
    have hn : h.n + 2 ≤ h1.n := by have := hu.1; simpa using this
    have hn1 : h.n + 1 < h1.n := by omega
    have hn0 : h.n < h1.n := by omega
    have hwk := wrap_succ hkN (by omega)
    repeat (first
      | with_reducible refine draw_enter ?_
      | with_reducible exact rok_nil
      | ((with_reducible refine rok_cons ?_ ?_); (first | exact Or.inl (by decide +kernel) | exact Or.inr (by simp [h50, fr, hkN, hb, hn0, a.loans.len]) | exact Or.inr (fun hlt => by simp [kill_none, Hp.alloc_g, Nat.ne_of_lt hlt])))
      | with_reducible refine rok_and ?_ ?_
      | ((with_reducible refine eok_cons ?_ ?_); (first | exact Or.inl (by decide +kernel) | exact Or.inr (by simp [h50, fr, hkN, hb, hn0, a.loans.len]) | exact Or.inr (fun hlt => by simp [kill_none, Hp.alloc_g, Nat.ne_of_lt hlt])))
      | with_reducible refine eok_and ?_ ?_
      | simp -implicitDefEqProofs [h50, fr, hkN, hb, hn0, a.loans.len])
    refine run_for Tok hm (by kernel_rfl) [15, 16, 17, 56, 57, 58, 59, 60, 61, 62, 63, 64, 65, 66, 67, 68, 69, 70, 71, 72, 73, 74, 75] (by kernel_rfl) h1.n s.loans.length (fun i f2 h2 => f2 56 = I i ∧ f2 15 = .bool (taken s plan k w i)) ?_ ?_ ?_
    · simp [taken]
    · rintro i f2 h2 hi ⟨h56, h15⟩ fr2 hu2
      have hb3 : h2.g (h.n + 1) = .row true 5 w.cells := by rw [hu2.2 _ (by omega)]; exact hb2
      have hn2 : h.n + 1 < h2.n := by have := hu2.1; omega
      have hn3 := hu2.1
      have a1 := a.grow (hu2.grow hg hg.1)
      have p1 := p.grow (hu2.grow hg hg.1)
      have hi2 : i < plan.length := hl ▸ hi
      have r1 := p1.ref (by omega)
      have r2 := a1.loans.ref (by omega)
      have l1 := ld_int p1 hi2
      have l2 := ld_loan a1 hi
      have hw := wrap_succ hi (by omega)
      have hts := taken_succ (s := s) (plan := plan) (n := k) (w := w) (k := i)
      have hs5 : slId lv < h2.n := a1.loans.lt (by omega)
      have hs6 : slId pv < h2.n := p1.lt (by omega)
      cases hta : taken s plan k w i with
      | true =>
        repeat (first
          | with_reducible refine draw_enter ?_
          | with_reducible exact rok_nil
          | ((with_reducible refine rok_cons ?_ ?_); (first | exact Or.inl (by decide +kernel) | exact Or.inr (by simp [h56, fr2, fr, h15, hta, hts, r1, r2, l1, l2, hi, hw, hn3]) | exact Or.inr (fun hlt => by simp [kill_none, Hp.alloc_g, Nat.ne_of_lt hlt])))
          | with_reducible refine rok_and ?_ ?_
          | ((with_reducible refine eok_cons ?_ ?_); (first | exact Or.inl (by decide +kernel) | exact Or.inr (by simp [h56, fr2, fr, h15, hta, hts, r1, r2, l1, l2, hi, hw, hn3]) | exact Or.inr (fun hlt => by simp [kill_none, Hp.alloc_g, Nat.ne_of_lt hlt])))
          | with_reducible refine eok_and ?_ ?_
          | simp -implicitDefEqProofs [h56, fr2, fr, h15, hta, hts, r1, r2, l1, l2, hi, hw, hn3])
      | false =>
        by_cases hpk : gI plan i = k
        · have hta2 : takenAt s plan k w i = overlap (gL s i) w := by simp [takenAt, hpk]
          repeat (first
            | with_reducible refine call_step (overlap_call _ _ _) ?_
            | with_reducible refine draw_enter ?_
            | with_reducible refine q_call (overlap_call _ _ _) ROk.refl ?_
            | with_reducible exact rok_nil
            | ((with_reducible refine rok_cons ?_ ?_); (first | exact Or.inl (by decide +kernel) | exact Or.inr (by simp [h56, fr2, fr, h15, hta, hts, hta2, r1, r2, l1, l2, hi, hi2, hw, hn3, hn2, hb3, hpk, h50, hs5, hs6]) | exact Or.inr (fun hlt => by simp [kill_none, Hp.alloc_g, Nat.ne_of_lt hlt])))
            | with_reducible refine rok_and ?_ ?_
            | ((with_reducible refine eok_cons ?_ ?_); (first | exact Or.inl (by decide +kernel) | exact Or.inr (by simp [h56, fr2, fr, h15, hta, hts, hta2, r1, r2, l1, l2, hi, hi2, hw, hn3, hn2, hb3, hpk, h50, hs5, hs6]) | exact Or.inr (fun hlt => by simp [kill_none, Hp.alloc_g, Nat.ne_of_lt hlt])))
            | with_reducible refine eok_and ?_ ?_
            | simp -implicitDefEqProofs [h56, fr2, fr, h15, hta, hts, hta2, r1, r2, l1, l2, hi, hi2, hw, hn3, hn2, hb3, hpk, h50, hs5, hs6])
        · have hta2 : takenAt s plan k w i = false := by simp [takenAt, hpk]
          repeat (first
            | with_reducible refine draw_enter ?_
            | with_reducible exact rok_nil
            | ((with_reducible refine rok_cons ?_ ?_); (first | exact Or.inl (by decide +kernel) | exact Or.inr (by simp [h56, fr2, fr, h15, hta, hts, hta2, r1, r2, l1, l2, hi, hi2, hw, hn3, hn2, hb3, hpk, h50, hs5, hs6]) | exact Or.inr (fun hlt => by simp [kill_none, Hp.alloc_g, Nat.ne_of_lt hlt])))
            | with_reducible refine rok_and ?_ ?_
            | ((with_reducible refine eok_cons ?_ ?_); (first | exact Or.inl (by decide +kernel) | exact Or.inr (by simp [h56, fr2, fr, h15, hta, hts, hta2, r1, r2, l1, l2, hi, hi2, hw, hn3, hn2, hb3, hpk, h50, hs5, hs6]) | exact Or.inr (fun hlt => by simp [kill_none, Hp.alloc_g, Nat.ne_of_lt hlt])))
            | with_reducible refine eok_and ?_ ?_
            | simp -implicitDefEqProofs [h56, fr2, fr, h15, hta, hts, hta2, r1, r2, l1, l2, hi, hi2, hw, hn3, hn2, hb3, hpk, h50, hs5, hs6])
    · rintro f2 h2 ⟨h56, h15⟩ fr2 hu2
      have hn3 := hu2.1
      have hu3 : Upto (h.n + 2) h1 h2 := hu2.mono hn
      have hm2 : h.n + 2 ≤ h2.n := by omega
      have hsuc := freeL_succ (s := s) (plan := plan) (w := w) (k := k)
      have ha2 := hacc.grow hu2 (Nat.le_refl _)
      have hlen : (freeL s plan w k).length + 1 ≤ 1000000 := by have := freeL_len (s := s) (plan := plan) (w := w) (k := k); omega
      cases hta : taken s plan k w s.loans.length with
      | true =>
        rw [hta] at hsuc
        repeat (first
          | with_reducible refine draw_enter ?_
          | with_reducible exact rok_nil
          | ((with_reducible refine rok_cons ?_ ?_); (first | exact Or.inl (by decide +kernel) | exact Or.inr (by simp [h56, fr2, fr, h15, hta, hwk, h50, hsuc, hu3]) | exact Or.inr (fun hlt => by simp [kill_none, Hp.alloc_g, Nat.ne_of_lt hlt])))
          | with_reducible refine rok_and ?_ ?_
          | ((with_reducible refine eok_cons ?_ ?_); (first | exact Or.inl (by decide +kernel) | exact Or.inr (by simp [h56, fr2, fr, h15, hta, hwk, h50, hsuc, hu3]) | exact Or.inr (fun hlt => by simp [kill_none, Hp.alloc_g, Nat.ne_of_lt hlt])))
          | with_reducible refine eok_and ?_ ?_
          | simp -implicitDefEqProofs [h56, fr2, fr, h15, hta, hwk, h50, hsuc, hu3])
        exact ha2
      | false =>
        rw [hta] at hsuc
        repeat (first
          | with_reducible refine draw_enter ?_
          | with_reducible exact rok_nil
          | ((with_reducible refine rok_cons ?_ ?_); (first | exact Or.inl (by decide +kernel) | exact Or.inr (by simp [h56, fr2, fr, h15, hta, hwk, h50, hsuc, hu3, ha2.app, hlen, ha2.kill, hm2]) | exact Or.inr (fun hlt => by simp [kill_none, Hp.alloc_g, Nat.ne_of_lt hlt])))
          | with_reducible refine rok_and ?_ ?_
          | ((with_reducible refine eok_cons ?_ ?_); (first | exact Or.inl (by decide +kernel) | exact Or.inr (by simp [h56, fr2, fr, h15, hta, hwk, h50, hsuc, hu3, ha2.app, hlen, ha2.kill, hm2]) | exact Or.inr (fun hlt => by simp [kill_none, Hp.alloc_g, Nat.ne_of_lt hlt])))
          | with_reducible refine eok_and ?_ ?_
          | simp -implicitDefEqProofs [h56, fr2, fr, h15, hta, hwk, h50, hsuc, hu3, ha2.app, hlen, ha2.kill, hm2])
        exact ⟨Upto.alloc (by simp <;> omega) (ha2.kill (Upto.alloc hm2 hu3)), Acc.own (by omega) (by simp) (by simp) (by simp)⟩
  · rintro f h1 ⟨h50, hacc⟩ fr hu
    have hg : Grow h h1 := hu.grow (by simp) (by simp)
    repeat (first
      | with_reducible refine draw_enter ?_
      | with_reducible exact rok_nil
      | ((with_reducible refine rok_cons ?_ ?_); (first | exact Or.inl (by decide +kernel) | exact Or.inr (by simp [h50, fr]) | exact Or.inr (fun hlt => by simp [kill_none, Hp.alloc_g, Nat.ne_of_lt hlt])))
      | with_reducible refine rok_and ?_ ?_
      | ((with_reducible refine eok_cons ?_ ?_); (first | exact Or.inl (by decide +kernel) | exact Or.inr (by simp [h50, fr]) | exact Or.inr (fun hlt => by simp [kill_none, Hp.alloc_g, Nat.ne_of_lt hlt])))
      | with_reducible refine eok_and ?_ ?_
      | simp -implicitDefEqProofs [h50, fr])
    refine ⟨f 10, by rw [h1'], hg, ?_⟩
    have : freeOf s plan kind from_ to = freeL s plan w N := by simp [freeOf, h1', hN, hw0]
    rw [this]
    exact hacc.mono (by omega)
end Go.Proofs

set_option linter.unusedSimpArgs false
set_option linter.unusedVariables false
open Go Go.Fw
namespace Go.Proofs
attribute [local irreducible] Run RunOps RunDraw pop condK guardK guardKD resK drawK RunD dK gK
set_option maxRecDepth 4000
theorem ok28 : codeOk Try.f28.ntmps (bodyOf Try.f28) = true := by kernel_rfl
theorem free28 {h : Hp} {kv lv pv : Value} {s : Store} {plan : List Int} (a : StoreAt h kv lv s) (p : SlOk h pv 1 plan.length (plan.map I)) (kind from_ to : Int) :
    ∃ v h', CallX Try.prog 28 #[.agg #[kv, lv], pv, I kind, I from_, I to] h v h' ∧ GivesInts h (errFree s plan kind from_ to) (freeOf s plan kind from_ to) v h' := by
  refine run_any Tok hm Try.func28 (by kernel_rfl) (by kernel_rfl) ok28 (Nat.le_of_ble_eq_true rfl) ?_
  by_cases he : errPlan s plan = 0
  case neg =>
    have h1 : errFree s plan kind from_ to = errPlan s plan := by simp [errFree, he]
    repeat (first
      | with_reducible refine call_step (checkPlan66 (a.grow (by simp)) (p.grow (by simp))) ?_
      | with_reducible refine draw_enter ?_
      | with_reducible refine q_call (checkPlan66 (a.grow (by simp)) (p.grow (by simp))) ROk.refl ?_
      | with_reducible exact rok_nil
      | ((with_reducible refine rok_cons ?_ ?_); (first | exact Or.inl (by decide +kernel) | exact Or.inr (by simp [bodyOf, Try.f28, he, h1]) | exact Or.inr (fun hlt => by simp [kill_none, Hp.alloc_g, Nat.ne_of_lt hlt])))
      | with_reducible refine rok_and ?_ ?_
      | ((with_reducible refine eok_cons ?_ ?_); (first | exact Or.inl (by decide +kernel) | exact Or.inr (by simp [bodyOf, Try.f28, he, h1]) | exact Or.inr (fun hlt => by simp [kill_none, Hp.alloc_g, Nat.ne_of_lt hlt])))
      | with_reducible refine eok_and ?_ ?_
      | simp -implicitDefEqProofs [bodyOf, Try.f28, he, h1])
    exact GivesInts.nil (by simp) (by simp [freeOf, h1, he])
  obtain ⟨o, hp⟩ := errPlan_ok he
  have hl := okPlan_length hp
  have l20 := o.l20
  have hwk : IntKind.i64.wrap ((s.kinds.length : Int) - 1) = s.kinds.length - 1 := IntWalk.i64_in _ (by have := o.k8; omega)
  cases q1 : within kind 0 (s.kinds.length - 1) with
  | false =>
    have h1 : errFree s plan kind from_ to = 1 := by simp [errFree, he, q1]
    repeat (first
      | with_reducible refine call_step (checkPlan66 (a.grow (by simp)) (p.grow (by simp))) ?_
      | with_reducible refine call_step (within55 _ _ _ _) ?_
      | with_reducible refine draw_enter ?_
      | with_reducible refine q_call (checkPlan66 (a.grow (by simp)) (p.grow (by simp))) ROk.refl ?_
      | with_reducible refine q_call (within55 _ _ _ _) ROk.refl ?_
      | with_reducible exact rok_nil
      | ((with_reducible refine rok_cons ?_ ?_); (first | exact Or.inl (by decide +kernel) | exact Or.inr (by simp [bodyOf, Try.f28, he, h1, q1, hwk, a.kinds.len]) | exact Or.inr (fun hlt => by simp [kill_none, Hp.alloc_g, Nat.ne_of_lt hlt])))
      | with_reducible refine rok_and ?_ ?_
      | ((with_reducible refine eok_cons ?_ ?_); (first | exact Or.inl (by decide +kernel) | exact Or.inr (by simp [bodyOf, Try.f28, he, h1, q1, hwk, a.kinds.len]) | exact Or.inr (fun hlt => by simp [kill_none, Hp.alloc_g, Nat.ne_of_lt hlt])))
      | with_reducible refine eok_and ?_ ?_
      | simp -implicitDefEqProofs [bodyOf, Try.f28, he, h1, q1, hwk, a.kinds.len])
    exact GivesInts.nil (by simp) (by simp [freeOf, h1, he])
  | true =>
  cases q2 : within to 1 1440 with
  | false =>
    have h1 : errFree s plan kind from_ to = 1 := by simp [errFree, he, q2]
    repeat (first
      | with_reducible refine call_step (checkPlan66 (a.grow (by simp)) (p.grow (by simp))) ?_
      | with_reducible refine call_step (within55 _ _ _ _) ?_
      | with_reducible refine draw_enter ?_
      | with_reducible refine q_call (checkPlan66 (a.grow (by simp)) (p.grow (by simp))) ROk.refl ?_
      | with_reducible refine q_call (within55 _ _ _ _) ROk.refl ?_
      | with_reducible exact rok_nil
      | ((with_reducible refine rok_cons ?_ ?_); (first | exact Or.inl (by decide +kernel) | exact Or.inr (by simp [bodyOf, Try.f28, he, h1, q1, q2, hwk, a.kinds.len]) | exact Or.inr (fun hlt => by simp [kill_none, Hp.alloc_g, Nat.ne_of_lt hlt])))
      | with_reducible refine rok_and ?_ ?_
      | ((with_reducible refine eok_cons ?_ ?_); (first | exact Or.inl (by decide +kernel) | exact Or.inr (by simp [bodyOf, Try.f28, he, h1, q1, q2, hwk, a.kinds.len]) | exact Or.inr (fun hlt => by simp [kill_none, Hp.alloc_g, Nat.ne_of_lt hlt])))
      | with_reducible refine eok_and ?_ ?_
      | simp -implicitDefEqProofs [bodyOf, Try.f28, he, h1, q1, q2, hwk, a.kinds.len])
    exact GivesInts.nil (by simp) (by simp [freeOf, h1, he])
  | true =>
  have hto := within_iff.1 q2
  have hwt : IntKind.i64.wrap (to - 1) = to - 1 := IntWalk.i64_in _ (by omega)
  cases q3 : within from_ 0 (to - 1) with
  | false =>
    have h1 : errFree s plan kind from_ to = 1 := by simp [errFree, he, q3]
    repeat (first
      | with_reducible refine call_step (checkPlan66 (a.grow (by simp)) (p.grow (by simp))) ?_
      | with_reducible refine call_step (within55 _ _ _ _) ?_
      | with_reducible refine draw_enter ?_
      | with_reducible refine q_call (checkPlan66 (a.grow (by simp)) (p.grow (by simp))) ROk.refl ?_
      | with_reducible refine q_call (within55 _ _ _ _) ROk.refl ?_
      | with_reducible exact rok_nil
      | ((with_reducible refine rok_cons ?_ ?_); (first | exact Or.inl (by decide +kernel) | exact Or.inr (by simp [bodyOf, Try.f28, he, h1, q1, q2, q3, hwt, hwk, a.kinds.len]) | exact Or.inr (fun hlt => by simp [kill_none, Hp.alloc_g, Nat.ne_of_lt hlt])))
      | with_reducible refine rok_and ?_ ?_
      | ((with_reducible refine eok_cons ?_ ?_); (first | exact Or.inl (by decide +kernel) | exact Or.inr (by simp [bodyOf, Try.f28, he, h1, q1, q2, q3, hwt, hwk, a.kinds.len]) | exact Or.inr (fun hlt => by simp [kill_none, Hp.alloc_g, Nat.ne_of_lt hlt])))
      | with_reducible refine eok_and ?_ ?_
      | simp -implicitDefEqProofs [bodyOf, Try.f28, he, h1, q1, q2, q3, hwt, hwk, a.kinds.len])
    exact GivesInts.nil (by simp) (by simp [freeOf, h1, he])
  | true =>
  have h1' : errFree s plan kind from_ to = 0 := by simp [errFree, he, q1, q2, q3]
  have hk := within_iff.1 q1
  have hkn : kind.toNat < s.kinds.length := by omega
  have hit := o.items _ hkn
  obtain ⟨N, hN⟩ : ∃ N : Nat, (gK s kind.toNat).items = N := ⟨(gK s kind.toNat).items.toNat, by omega⟩
  have hki : kind < s.kinds.length := by omega
  repeat (first
    | with_reducible refine call_step (checkPlan66 (a.grow (by simp)) (p.grow (by simp))) ?_
    | with_reducible refine call_step (within55 _ _ _ _) ?_
    | with_reducible refine draw_enter ?_
    | with_reducible refine q_call (checkPlan66 (a.grow (by simp)) (p.grow (by simp))) ROk.refl ?_
    | with_reducible refine q_call (within55 _ _ _ _) ROk.refl ?_
    | with_reducible exact rok_nil
    | ((with_reducible refine rok_cons ?_ ?_); (first | exact Or.inl (by decide +kernel) | exact Or.inr (by simp [bodyOf, Try.f28, he, q1, q2, q3, hwt, hwk, a.kinds.len]) | exact Or.inr (fun hlt => by simp [kill_none, Hp.alloc_g, Nat.ne_of_lt hlt])))
    | with_reducible refine rok_and ?_ ?_
    | ((with_reducible refine eok_cons ?_ ?_); (first | exact Or.inl (by decide +kernel) | exact Or.inr (by simp [bodyOf, Try.f28, he, q1, q2, q3, hwt, hwk, a.kinds.len]) | exact Or.inr (fun hlt => by simp [kill_none, Hp.alloc_g, Nat.ne_of_lt hlt])))
    | with_reducible refine eok_and ?_ ?_
    | simp -implicitDefEqProofs [bodyOf, Try.f28, he, q1, q2, q3, hwt, hwk, a.kinds.len])
  obtain ⟨w, hw0⟩ : ∃ w : Loan, w = ⟨kind, 0, from_, to, 0⟩ := ⟨_, rfl⟩
  refine run_for Tok hm (by kernel_rfl) [13, 14, 15, 16, 42, 43, 44, 45, 46, 47, 48, 49, 50, 51, 52, 53, 54, 55, 56, 57, 58, 59, 60, 61, 62, 63, 64, 65, 66, 67, 68, 69, 70, 71, 72, 73, 74, 75, 76, 77, 78, 79, 80, 81, 82, 83, 84] (by kernel_rfl) (h.n + 1) N (fun k f h1 => f 14 = I k ∧ Acc (h.n + 1) h1 1 (f 13) (freeL s plan w k).length ((freeL s plan w k).map I)) ?_ ?_ ?_
  · exact ⟨by simp, by simpa [freeL] using Acc.nil⟩
  · rintro k f h1 hkN ⟨h14, hacc⟩ fr hu
    have hg : Grow h h1 := hu.grow (by simp) (by simp)
    have hb : h1.g h.n = .row true 2 [kv, lv] := by rw [hu.2 _ (by simp)]; simp
    have hn : h.n + 1 ≤ h1.n := by have := hu.1; simpa using this
    have hn0 : h.n < h1.n := by omega
    have hwk := wrap_succ hkN (by omega)
    have a1 := a.grow hg
    have r1 := a1.kinds.ref (by omega)
    have l1 := ld_items a1 hkn
    repeat (first
      | with_reducible refine draw_enter ?_
      | with_reducible exact rok_nil
      | ((with_reducible refine rok_cons ?_ ?_); (first | exact Or.inl (by decide +kernel) | exact Or.inr (by simp [h14, fr, hkN, hb, hn0, r1, l1, hN, hk.1, hki]) | exact Or.inr (fun hlt => by simp [kill_none, Hp.alloc_g, Nat.ne_of_lt hlt])))
      | with_reducible refine rok_and ?_ ?_
      | ((with_reducible refine eok_cons ?_ ?_); (first | exact Or.inl (by decide +kernel) | exact Or.inr (by simp [h14, fr, hkN, hb, hn0, r1, l1, hN, hk.1, hki]) | exact Or.inr (fun hlt => by simp [kill_none, Hp.alloc_g, Nat.ne_of_lt hlt])))
      | with_reducible refine eok_and ?_ ?_
      | simp -implicitDefEqProofs [h14, fr, hkN, hb, hn0, r1, l1, hN, hk.1, hki])
    refine run_for Tok hm (by kernel_rfl) [15, 16, 52, 53, 54, 55, 56, 57, 58, 59, 60, 61, 62, 63, 64, 65, 66, 67, 68, 69, 70, 71, 72, 73, 74, 75, 76, 77, 78, 79] (by kernel_rfl) h1.n s.loans.length (fun i f2 h2 => f2 16 = I i ∧ f2 15 = .bool (!taken s plan k w i)) ?_ ?_ ?_
    · simp [taken]
    · rintro i f2 h2 hi ⟨h16, h15⟩ fr2 hu2
      have hb3 : h2.g h.n = .row true 2 [kv, lv] := by rw [hu2.2 _ (by omega)]; exact hb
      have hn2 : h.n < h2.n := by have := hu2.1; omega
      have hn3 := hu2.1
      have a1 := a.grow (hu2.grow hg hg.1)
      have p1 := p.grow (hu2.grow hg hg.1)
      have hi2 : i < plan.length := hl ▸ hi
      have r1 := p1.ref (by omega)
      have r2 := a1.loans.ref (by omega)
      have l1 := ld_int p1 hi2
      have l2 := ld_loan a1 hi
      have hw := wrap_succ hi (by omega)
      have hts := taken_succ (s := s) (plan := plan) (n := k) (w := w) (k := i)
      have hc := overlap67 (gL s i) w h2
      rw [hw0] at hc
      cases hta : taken s plan k w i with
      | true =>
        repeat (first
          | with_reducible refine draw_enter ?_
          | with_reducible exact rok_nil
          | ((with_reducible refine rok_cons ?_ ?_); (first | exact Or.inl (by decide +kernel) | exact Or.inr (by simp [h16, fr2, fr, h15, hta, hts, p.len, hi, hi2, hw]) | exact Or.inr (fun hlt => by simp [kill_none, Hp.alloc_g, Nat.ne_of_lt hlt])))
          | with_reducible refine rok_and ?_ ?_
          | ((with_reducible refine eok_cons ?_ ?_); (first | exact Or.inl (by decide +kernel) | exact Or.inr (by simp [h16, fr2, fr, h15, hta, hts, p.len, hi, hi2, hw]) | exact Or.inr (fun hlt => by simp [kill_none, Hp.alloc_g, Nat.ne_of_lt hlt])))
          | with_reducible refine eok_and ?_ ?_
          | simp -implicitDefEqProofs [h16, fr2, fr, h15, hta, hts, p.len, hi, hi2, hw])
      | false =>
        by_cases hpk : gI plan i = k
        · have hta2 : takenAt s plan k w i = overlap (gL s i) w := by simp [takenAt, hpk]
          rw [hw0] at hta2
          repeat (first
            | with_reducible refine call_step (hc) ?_
            | with_reducible refine draw_enter ?_
            | with_reducible refine q_call (hc) ROk.refl ?_
            | with_reducible exact rok_nil
            | ((with_reducible refine rok_cons ?_ ?_); (first | exact Or.inl (by decide +kernel) | exact Or.inr (by simp [h16, fr2, fr, h15, hta, hts, hta2, p.len, r1, r2, l1, l2, hi, hi2, hw, hn3, hn2, hb3, hpk, h14]) | exact Or.inr (fun hlt => by simp [kill_none, Hp.alloc_g, Nat.ne_of_lt hlt])))
            | with_reducible refine rok_and ?_ ?_
            | ((with_reducible refine eok_cons ?_ ?_); (first | exact Or.inl (by decide +kernel) | exact Or.inr (by simp [h16, fr2, fr, h15, hta, hts, hta2, p.len, r1, r2, l1, l2, hi, hi2, hw, hn3, hn2, hb3, hpk, h14]) | exact Or.inr (fun hlt => by simp [kill_none, Hp.alloc_g, Nat.ne_of_lt hlt])))
            | with_reducible refine eok_and ?_ ?_
            | simp -implicitDefEqProofs [h16, fr2, fr, h15, hta, hts, hta2, p.len, r1, r2, l1, l2, hi, hi2, hw, hn3, hn2, hb3, hpk, h14])
          rw [hw0]; exact hta2.symm
        · have hta2 : takenAt s plan k w i = false := by simp [takenAt, hpk]
          repeat (first
            | with_reducible refine draw_enter ?_
            | with_reducible exact rok_nil
            | ((with_reducible refine rok_cons ?_ ?_); (first | exact Or.inl (by decide +kernel) | exact Or.inr (by simp [h16, fr2, fr, h15, hta, hts, hta2, p.len, r1, r2, l1, l2, hi, hi2, hw, hn3, hn2, hb3, hpk, h14]) | exact Or.inr (fun hlt => by simp [kill_none, Hp.alloc_g, Nat.ne_of_lt hlt])))
            | with_reducible refine rok_and ?_ ?_
            | ((with_reducible refine eok_cons ?_ ?_); (first | exact Or.inl (by decide +kernel) | exact Or.inr (by simp [h16, fr2, fr, h15, hta, hts, hta2, p.len, r1, r2, l1, l2, hi, hi2, hw, hn3, hn2, hb3, hpk, h14]) | exact Or.inr (fun hlt => by simp [kill_none, Hp.alloc_g, Nat.ne_of_lt hlt])))
            | with_reducible refine eok_and ?_ ?_
            | simp -implicitDefEqProofs [h16, fr2, fr, h15, hta, hts, hta2, p.len, r1, r2, l1, l2, hi, hi2, hw, hn3, hn2, hb3, hpk, h14])
    · rintro f2 h2 ⟨h16, h15⟩ fr2 hu2
      have hn3 := hu2.1
      have hu3 : Upto (h.n + 1) h1 h2 := hu2.mono hn
      have hm2 : h.n + 1 ≤ h2.n := by omega
      have hsuc := freeL_succ (s := s) (plan := plan) (w := w) (k := k)
      have ha2 := hacc.grow hu2 (Nat.le_refl _)
      have hlen : (freeL s plan w k).length + 1 ≤ 1000000 := by have := freeL_len (s := s) (plan := plan) (w := w) (k := k); omega
      cases hta : taken s plan k w s.loans.length with
      | true =>
        rw [hta] at hsuc
        repeat (first
          | with_reducible refine draw_enter ?_
          | with_reducible exact rok_nil
          | ((with_reducible refine rok_cons ?_ ?_); (first | exact Or.inl (by decide +kernel) | exact Or.inr (by simp [h16, fr2, fr, h15, hta, hwk, h14, hsuc, hu3, p.len, hl]) | exact Or.inr (fun hlt => by simp [kill_none, Hp.alloc_g, Nat.ne_of_lt hlt])))
          | with_reducible refine rok_and ?_ ?_
          | ((with_reducible refine eok_cons ?_ ?_); (first | exact Or.inl (by decide +kernel) | exact Or.inr (by simp [h16, fr2, fr, h15, hta, hwk, h14, hsuc, hu3, p.len, hl]) | exact Or.inr (fun hlt => by simp [kill_none, Hp.alloc_g, Nat.ne_of_lt hlt])))
          | with_reducible refine eok_and ?_ ?_
          | simp -implicitDefEqProofs [h16, fr2, fr, h15, hta, hwk, h14, hsuc, hu3, p.len, hl])
        exact ha2
      | false =>
        rw [hta] at hsuc
        repeat (first
          | with_reducible refine draw_enter ?_
          | with_reducible exact rok_nil
          | ((with_reducible refine rok_cons ?_ ?_); (first | exact Or.inl (by decide +kernel) | exact Or.inr (by simp [h16, fr2, fr, h15, hta, hwk, h14, hsuc, hu3, ha2.app, hlen, p.len, hl]) | exact Or.inr (fun hlt => by simp [kill_none, Hp.alloc_g, Nat.ne_of_lt hlt])))
          | with_reducible refine rok_and ?_ ?_
          | ((with_reducible refine eok_cons ?_ ?_); (first | exact Or.inl (by decide +kernel) | exact Or.inr (by simp [h16, fr2, fr, h15, hta, hwk, h14, hsuc, hu3, ha2.app, hlen, p.len, hl]) | exact Or.inr (fun hlt => by simp [kill_none, Hp.alloc_g, Nat.ne_of_lt hlt])))
          | with_reducible refine eok_and ?_ ?_
          | simp -implicitDefEqProofs [h16, fr2, fr, h15, hta, hwk, h14, hsuc, hu3, ha2.app, hlen, p.len, hl])
        exact ⟨Upto.alloc (by simp <;> omega) (ha2.kill (Upto.alloc hm2 hu3)), Acc.own (by omega) (by simp) (by simp) (by simp)⟩
  · rintro f h1 ⟨h14, hacc⟩ fr hu
    have hg : Grow h h1 := hu.grow (by simp) (by simp)
    have hb : h1.g h.n = .row true 2 [kv, lv] := by rw [hu.2 _ (by simp)]; simp
    have hn : h.n + 1 ≤ h1.n := by have := hu.1; simpa using this
    have a1 := a.grow hg
    have r1 := a1.kinds.ref (by omega)
    have l1 := ld_items a1 hkn
    repeat (first
      | with_reducible refine draw_enter ?_
      | with_reducible exact rok_nil
      | ((with_reducible refine rok_cons ?_ ?_); (first | exact Or.inl (by decide +kernel) | exact Or.inr (by simp [h14, fr, hb, r1, l1, hN, hk.1, hki]) | exact Or.inr (fun hlt => by simp [kill_none, Hp.alloc_g, Nat.ne_of_lt hlt])))
      | with_reducible refine rok_and ?_ ?_
      | ((with_reducible refine eok_cons ?_ ?_); (first | exact Or.inl (by decide +kernel) | exact Or.inr (by simp [h14, fr, hb, r1, l1, hN, hk.1, hki]) | exact Or.inr (fun hlt => by simp [kill_none, Hp.alloc_g, Nat.ne_of_lt hlt])))
      | with_reducible refine eok_and ?_ ?_
      | simp -implicitDefEqProofs [h14, fr, hb, r1, l1, hN, hk.1, hki])
    refine ⟨f 13, by rw [h1'], hg, ?_⟩
    have : freeOf s plan kind from_ to = freeL s plan w N := by simp [freeOf, h1', hN, hw0]
    rw [this]
    exact hacc.mono (by omega)
end Go.Proofs
