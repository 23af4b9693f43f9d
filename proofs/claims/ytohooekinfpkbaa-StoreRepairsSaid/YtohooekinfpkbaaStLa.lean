/- Part of the proofs of the laws (see the last text of a claim): contracts of functions, and what they are shown with. -/
import Derived.Test.YtohooekinfpkbaaSb
set_option linter.unusedSimpArgs false
set_option linter.unusedVariables false
open Go Go.Fw
namespace Go.Proofs
attribute [local irreducible] Run RunOps RunDraw pop condK guardK guardKD resK drawK RunD dK Fw.gK
set_option maxRecDepth 4000
def largeAt (s : Store) (i : Nat) : Bool := decide (4 < (gK s i).items) && decide ((gK s i).items ≤ 8)
def largeB (s : Store) : Bool := (decide (6 < s.loans.length) && decide (s.loans.length ≤ 20)) || (List.range (min s.kinds.length 20)).any (largeAt s)
theorem any_range {p : Nat → Bool} {n i : Nat} (hi : i < n) (h : p i = true) : (List.range n).any p = true := List.any_eq_true.2 ⟨i, List.mem_range.2 hi, h⟩
theorem any_range_none {p : Nat → Bool} {n : Nat} (h : ∀ j, j < n → p j = false) : (List.range n).any p = false := by
  rw [List.any_eq_false]
  intro j hj
  simp [h j (List.mem_range.1 hj)]
theorem ok16 : codeOk Try.f16.ntmps (bodyOf Try.f16) = true := by kernel_rfl
theorem large16 {h : Hp} {kv lv : Value} {s : Store} (a : StoreAt h kv lv s) : CallX Try.prog 16 #[.agg #[kv, lv]] h (.bool (largeB s)) h := by
  refine run_flat Tok hm Try.func16 (by kernel_rfl) (by kernel_rfl) ok16 (Nat.le_of_ble_eq_true rfl) ?_
  by_cases c : 6 < s.loans.length ∧ s.loans.length ≤ 20
  · have hr : largeB s = true := by simp [largeB, c.1, c.2]
    have c1 : (6 : Int) < s.loans.length := by omega
    have c2 : (s.loans.length : Int) ≤ 20 := by omega
    repeat (first
      | with_reducible refine draw_enter ?_
      | with_reducible exact rok_nil
      | ((with_reducible refine rok_cons ?_ ?_); (first | exact Or.inl (by decide +kernel) | exact Or.inr (by simp [bodyOf, Try.f16, a.loans.len, c.1, c.2, c1, c2, hr]) | exact Or.inr (fun hlt => by simp [kill_none, Hp.alloc_g, Nat.ne_of_lt hlt])))
      | with_reducible refine rok_and ?_ ?_
      | ((with_reducible refine eok_cons ?_ ?_); (first | exact Or.inl (by decide +kernel) | exact Or.inr (by simp [bodyOf, Try.f16, a.loans.len, c.1, c.2, c1, c2, hr]) | exact Or.inr (fun hlt => by simp [kill_none, Hp.alloc_g, Nat.ne_of_lt hlt])))
      | with_reducible refine eok_and ?_ ?_
      | simp -implicitDefEqProofs [bodyOf, Try.f16, a.loans.len, c.1, c.2, c1, c2, hr])
  have hl : largeB s = (List.range (min s.kinds.length 20)).any (largeAt s) := by
    unfold largeB
    rw [show (decide (6 < s.loans.length) && decide (s.loans.length ≤ 20)) = false by simp; omega, Bool.false_or]
  obtain ⟨n, hn⟩ : ∃ n, n = min s.kinds.length 20 := ⟨_, rfl⟩
  rw [← hn] at hl
  by_cases c1 : 6 < s.loans.length
  · have c2 : ¬ s.loans.length ≤ 20 := fun e => c ⟨c1, e⟩
    have d1 : (6 : Int) < s.loans.length := by omega
    have d2 : ¬ (s.loans.length : Int) ≤ 20 := by omega
    repeat (first
      | with_reducible refine draw_enter ?_
      | with_reducible exact rok_nil
      | ((with_reducible refine rok_cons ?_ ?_); (first | exact Or.inl (by decide +kernel) | exact Or.inr (by simp [bodyOf, Try.f16, a.loans.len, c1, c2, d1, d2]) | exact Or.inr (fun hlt => by simp [kill_none, Hp.alloc_g, Nat.ne_of_lt hlt])))
      | with_reducible refine rok_and ?_ ?_
      | ((with_reducible refine eok_cons ?_ ?_); (first | exact Or.inl (by decide +kernel) | exact Or.inr (by simp [bodyOf, Try.f16, a.loans.len, c1, c2, d1, d2]) | exact Or.inr (fun hlt => by simp [kill_none, Hp.alloc_g, Nat.ne_of_lt hlt])))
      | with_reducible refine eok_and ?_ ?_
      | simp -implicitDefEqProofs [bodyOf, Try.f16, a.loans.len, c1, c2, d1, d2])
    refine run_for Tok hm (by kernel_rfl) [2, 3, 14, 15, 16, 17, 18, 19, 20, 21, 22, 23, 24, 25, 26, 27, 28, 29, 30, 31, 32, 33, 34, 35, 36, 37, 38, 39, 40] (by kernel_rfl) (h.n + 1) n (fun i f h1 => f 3 = I i ∧ ∀ j, j < i → largeAt s j = false) ?_ ?_ ?_
    · exact ⟨by simp, fun j hj => absurd hj (by omega)⟩
    · rintro i f h1 hi ⟨h3, hall⟩ fr hu
      have hg : Grow h h1 := hu.grow (by simp) (by simp)
      have hb : h1.g h.n = .row true 2 [kv, lv] := by rw [hu.2 _ (by simp)]; simp
      have hn0 : h.n < h1.n := by have := hu.1; simp at this; omega
      have a1 := a.grow hg
      have hik : i < s.kinds.length := by omega
      have hi20 : (i : Int) < 20 := by omega
      have hi20' : i < 20 := by omega
      have r1 := a1.kinds.ref (by omega)
      have l1 := ld_items a1 hik
      have hw := wrap_succ hi (by omega)
      by_cases e1 : 4 < (gK s i).items
      · by_cases e2 : (gK s i).items ≤ 8
        · have hr : largeB s = true := by rw [hl]; exact any_range hi (by simp [largeAt, e1, e2])
          repeat (first
            | with_reducible refine draw_enter ?_
            | with_reducible exact rok_nil
            | ((with_reducible refine rok_cons ?_ ?_); (first | exact Or.inl (by decide +kernel) | exact Or.inr (by simp [h3, fr, hb, hn0, a.kinds.len, hik, hi20, hi20', r1, l1, e1, e2, hr, hg]) | exact Or.inr (fun hlt => by simp [kill_none, Hp.alloc_g, Nat.ne_of_lt hlt])))
            | with_reducible refine rok_and ?_ ?_
            | ((with_reducible refine eok_cons ?_ ?_); (first | exact Or.inl (by decide +kernel) | exact Or.inr (by simp [h3, fr, hb, hn0, a.kinds.len, hik, hi20, hi20', r1, l1, e1, e2, hr, hg]) | exact Or.inr (fun hlt => by simp [kill_none, Hp.alloc_g, Nat.ne_of_lt hlt])))
            | with_reducible refine eok_and ?_ ?_
            | simp -implicitDefEqProofs [h3, fr, hb, hn0, a.kinds.len, hik, hi20, hi20', r1, l1, e1, e2, hr, hg])
        · have hf : largeAt s i = false := by simp [largeAt, e2]
          repeat (first
            | with_reducible refine draw_enter ?_
            | with_reducible exact rok_nil
            | ((with_reducible refine rok_cons ?_ ?_); (first | exact Or.inl (by decide +kernel) | exact Or.inr (by simp [h3, fr, hb, hn0, a.kinds.len, hik, hi20, hi20', r1, l1, e1, e2, hw]) | exact Or.inr (fun hlt => by simp [kill_none, Hp.alloc_g, Nat.ne_of_lt hlt])))
            | with_reducible refine rok_and ?_ ?_
            | ((with_reducible refine eok_cons ?_ ?_); (first | exact Or.inl (by decide +kernel) | exact Or.inr (by simp [h3, fr, hb, hn0, a.kinds.len, hik, hi20, hi20', r1, l1, e1, e2, hw]) | exact Or.inr (fun hlt => by simp [kill_none, Hp.alloc_g, Nat.ne_of_lt hlt])))
            | with_reducible refine eok_and ?_ ?_
            | simp -implicitDefEqProofs [h3, fr, hb, hn0, a.kinds.len, hik, hi20, hi20', r1, l1, e1, e2, hw])
          exact all_succ hall hf
      · have hf : largeAt s i = false := by simp [largeAt, e1]
        repeat (first
          | with_reducible refine draw_enter ?_
          | with_reducible exact rok_nil
          | ((with_reducible refine rok_cons ?_ ?_); (first | exact Or.inl (by decide +kernel) | exact Or.inr (by simp [h3, fr, hb, hn0, a.kinds.len, hik, hi20, hi20', r1, l1, e1, hw]) | exact Or.inr (fun hlt => by simp [kill_none, Hp.alloc_g, Nat.ne_of_lt hlt])))
          | with_reducible refine rok_and ?_ ?_
          | ((with_reducible refine eok_cons ?_ ?_); (first | exact Or.inl (by decide +kernel) | exact Or.inr (by simp [h3, fr, hb, hn0, a.kinds.len, hik, hi20, hi20', r1, l1, e1, hw]) | exact Or.inr (fun hlt => by simp [kill_none, Hp.alloc_g, Nat.ne_of_lt hlt])))
          | with_reducible refine eok_and ?_ ?_
          | simp -implicitDefEqProofs [h3, fr, hb, hn0, a.kinds.len, hik, hi20, hi20', r1, l1, e1, hw])
        exact all_succ hall hf
    · rintro f h1 ⟨h3, hall⟩ fr hu
      have hg : Grow h h1 := hu.grow (by simp) (by simp)
      have hb : h1.g h.n = .row true 2 [kv, lv] := by rw [hu.2 _ (by simp)]; simp
      have hn0 : h.n < h1.n := by have := hu.1; simp at this; omega
      have hr : largeB s = false := by rw [hl]; exact any_range_none hall
      by_cases e1 : n < s.kinds.length
      · have e2 : n = 20 := by omega
        have e3 : 20 < s.kinds.length := by omega
        repeat (first
          | with_reducible refine draw_enter ?_
          | with_reducible exact rok_nil
          | ((with_reducible refine rok_cons ?_ ?_); (first | exact Or.inl (by decide +kernel) | exact Or.inr (by simp [h3, fr, hb, hn0, a.kinds.len, e1, e2, e3, hr, hg]) | exact Or.inr (fun hlt => by simp [kill_none, Hp.alloc_g, Nat.ne_of_lt hlt])))
          | with_reducible refine rok_and ?_ ?_
          | ((with_reducible refine eok_cons ?_ ?_); (first | exact Or.inl (by decide +kernel) | exact Or.inr (by simp [h3, fr, hb, hn0, a.kinds.len, e1, e2, e3, hr, hg]) | exact Or.inr (fun hlt => by simp [kill_none, Hp.alloc_g, Nat.ne_of_lt hlt])))
          | with_reducible refine eok_and ?_ ?_
          | simp -implicitDefEqProofs [h3, fr, hb, hn0, a.kinds.len, e1, e2, e3, hr, hg])
      ·
        repeat (first
          | with_reducible refine draw_enter ?_
          | with_reducible exact rok_nil
          | ((with_reducible refine rok_cons ?_ ?_); (first | exact Or.inl (by decide +kernel) | exact Or.inr (by simp [h3, fr, hb, hn0, a.kinds.len, e1, hr, hg]) | exact Or.inr (fun hlt => by simp [kill_none, Hp.alloc_g, Nat.ne_of_lt hlt])))
          | with_reducible refine rok_and ?_ ?_
          | ((with_reducible refine eok_cons ?_ ?_); (first | exact Or.inl (by decide +kernel) | exact Or.inr (by simp [h3, fr, hb, hn0, a.kinds.len, e1, hr, hg]) | exact Or.inr (fun hlt => by simp [kill_none, Hp.alloc_g, Nat.ne_of_lt hlt])))
          | with_reducible refine eok_and ?_ ?_
          | simp -implicitDefEqProofs [h3, fr, hb, hn0, a.kinds.len, e1, hr, hg])
  · have d1 : ¬ (6 : Int) < s.loans.length := by omega
    repeat (first
      | with_reducible refine draw_enter ?_
      | with_reducible exact rok_nil
      | ((with_reducible refine rok_cons ?_ ?_); (first | exact Or.inl (by decide +kernel) | exact Or.inr (by simp [bodyOf, Try.f16, a.loans.len, c1, d1]) | exact Or.inr (fun hlt => by simp [kill_none, Hp.alloc_g, Nat.ne_of_lt hlt])))
      | with_reducible refine rok_and ?_ ?_
      | ((with_reducible refine eok_cons ?_ ?_); (first | exact Or.inl (by decide +kernel) | exact Or.inr (by simp [bodyOf, Try.f16, a.loans.len, c1, d1]) | exact Or.inr (fun hlt => by simp [kill_none, Hp.alloc_g, Nat.ne_of_lt hlt])))
      | with_reducible refine eok_and ?_ ?_
      | simp -implicitDefEqProofs [bodyOf, Try.f16, a.loans.len, c1, d1])
    refine run_for Tok hm (by kernel_rfl) [2, 3, 14, 15, 16, 17, 18, 19, 20, 21, 22, 23, 24, 25, 26, 27, 28, 29, 30, 31, 32, 33, 34, 35, 36, 37, 38, 39, 40] (by kernel_rfl) (h.n + 1) n (fun i f h1 => f 3 = I i ∧ ∀ j, j < i → largeAt s j = false) ?_ ?_ ?_
    · exact ⟨by simp, fun j hj => absurd hj (by omega)⟩
    · rintro i f h1 hi ⟨h3, hall⟩ fr hu
      have hg : Grow h h1 := hu.grow (by simp) (by simp)
      have hb : h1.g h.n = .row true 2 [kv, lv] := by rw [hu.2 _ (by simp)]; simp
      have hn0 : h.n < h1.n := by have := hu.1; simp at this; omega
      have a1 := a.grow hg
      have hik : i < s.kinds.length := by omega
      have hi20 : (i : Int) < 20 := by omega
      have hi20' : i < 20 := by omega
      have r1 := a1.kinds.ref (by omega)
      have l1 := ld_items a1 hik
      have hw := wrap_succ hi (by omega)
      by_cases e1 : 4 < (gK s i).items
      · by_cases e2 : (gK s i).items ≤ 8
        · have hr : largeB s = true := by rw [hl]; exact any_range hi (by simp [largeAt, e1, e2])
          repeat (first
            | with_reducible refine draw_enter ?_
            | with_reducible exact rok_nil
            | ((with_reducible refine rok_cons ?_ ?_); (first | exact Or.inl (by decide +kernel) | exact Or.inr (by simp [h3, fr, hb, hn0, a.kinds.len, hik, hi20, hi20', r1, l1, e1, e2, hr, hg]) | exact Or.inr (fun hlt => by simp [kill_none, Hp.alloc_g, Nat.ne_of_lt hlt])))
            | with_reducible refine rok_and ?_ ?_
            | ((with_reducible refine eok_cons ?_ ?_); (first | exact Or.inl (by decide +kernel) | exact Or.inr (by simp [h3, fr, hb, hn0, a.kinds.len, hik, hi20, hi20', r1, l1, e1, e2, hr, hg]) | exact Or.inr (fun hlt => by simp [kill_none, Hp.alloc_g, Nat.ne_of_lt hlt])))
            | with_reducible refine eok_and ?_ ?_
            | simp -implicitDefEqProofs [h3, fr, hb, hn0, a.kinds.len, hik, hi20, hi20', r1, l1, e1, e2, hr, hg])
        · have hf : largeAt s i = false := by simp [largeAt, e2]
          repeat (first
            | with_reducible refine draw_enter ?_
            | with_reducible exact rok_nil
            | ((with_reducible refine rok_cons ?_ ?_); (first | exact Or.inl (by decide +kernel) | exact Or.inr (by simp [h3, fr, hb, hn0, a.kinds.len, hik, hi20, hi20', r1, l1, e1, e2, hw]) | exact Or.inr (fun hlt => by simp [kill_none, Hp.alloc_g, Nat.ne_of_lt hlt])))
            | with_reducible refine rok_and ?_ ?_
            | ((with_reducible refine eok_cons ?_ ?_); (first | exact Or.inl (by decide +kernel) | exact Or.inr (by simp [h3, fr, hb, hn0, a.kinds.len, hik, hi20, hi20', r1, l1, e1, e2, hw]) | exact Or.inr (fun hlt => by simp [kill_none, Hp.alloc_g, Nat.ne_of_lt hlt])))
            | with_reducible refine eok_and ?_ ?_
            | simp -implicitDefEqProofs [h3, fr, hb, hn0, a.kinds.len, hik, hi20, hi20', r1, l1, e1, e2, hw])
          exact all_succ hall hf
      · have hf : largeAt s i = false := by simp [largeAt, e1]
        repeat (first
          | with_reducible refine draw_enter ?_
          | with_reducible exact rok_nil
          | ((with_reducible refine rok_cons ?_ ?_); (first | exact Or.inl (by decide +kernel) | exact Or.inr (by simp [h3, fr, hb, hn0, a.kinds.len, hik, hi20, hi20', r1, l1, e1, hw]) | exact Or.inr (fun hlt => by simp [kill_none, Hp.alloc_g, Nat.ne_of_lt hlt])))
          | with_reducible refine rok_and ?_ ?_
          | ((with_reducible refine eok_cons ?_ ?_); (first | exact Or.inl (by decide +kernel) | exact Or.inr (by simp [h3, fr, hb, hn0, a.kinds.len, hik, hi20, hi20', r1, l1, e1, hw]) | exact Or.inr (fun hlt => by simp [kill_none, Hp.alloc_g, Nat.ne_of_lt hlt])))
          | with_reducible refine eok_and ?_ ?_
          | simp -implicitDefEqProofs [h3, fr, hb, hn0, a.kinds.len, hik, hi20, hi20', r1, l1, e1, hw])
        exact all_succ hall hf
    · rintro f h1 ⟨h3, hall⟩ fr hu
      have hg : Grow h h1 := hu.grow (by simp) (by simp)
      have hb : h1.g h.n = .row true 2 [kv, lv] := by rw [hu.2 _ (by simp)]; simp
      have hn0 : h.n < h1.n := by have := hu.1; simp at this; omega
      have hr : largeB s = false := by rw [hl]; exact any_range_none hall
      by_cases e1 : n < s.kinds.length
      · have e2 : n = 20 := by omega
        have e3 : 20 < s.kinds.length := by omega
        repeat (first
          | with_reducible refine draw_enter ?_
          | with_reducible exact rok_nil
          | ((with_reducible refine rok_cons ?_ ?_); (first | exact Or.inl (by decide +kernel) | exact Or.inr (by simp [h3, fr, hb, hn0, a.kinds.len, e1, e2, e3, hr, hg]) | exact Or.inr (fun hlt => by simp [kill_none, Hp.alloc_g, Nat.ne_of_lt hlt])))
          | with_reducible refine rok_and ?_ ?_
          | ((with_reducible refine eok_cons ?_ ?_); (first | exact Or.inl (by decide +kernel) | exact Or.inr (by simp [h3, fr, hb, hn0, a.kinds.len, e1, e2, e3, hr, hg]) | exact Or.inr (fun hlt => by simp [kill_none, Hp.alloc_g, Nat.ne_of_lt hlt])))
          | with_reducible refine eok_and ?_ ?_
          | simp -implicitDefEqProofs [h3, fr, hb, hn0, a.kinds.len, e1, e2, e3, hr, hg])
      ·
        repeat (first
          | with_reducible refine draw_enter ?_
          | with_reducible exact rok_nil
          | ((with_reducible refine rok_cons ?_ ?_); (first | exact Or.inl (by decide +kernel) | exact Or.inr (by simp [h3, fr, hb, hn0, a.kinds.len, e1, hr, hg]) | exact Or.inr (fun hlt => by simp [kill_none, Hp.alloc_g, Nat.ne_of_lt hlt])))
          | with_reducible refine rok_and ?_ ?_
          | ((with_reducible refine eok_cons ?_ ?_); (first | exact Or.inl (by decide +kernel) | exact Or.inr (by simp [h3, fr, hb, hn0, a.kinds.len, e1, hr, hg]) | exact Or.inr (fun hlt => by simp [kill_none, Hp.alloc_g, Nat.ne_of_lt hlt])))
          | with_reducible refine eok_and ?_ ?_
          | simp -implicitDefEqProofs [h3, fr, hb, hn0, a.kinds.len, e1, hr, hg])
end Go.Proofs
