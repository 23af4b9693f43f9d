/- Part of the proofs of the laws (see the last text of a claim): contracts of functions, and what they are shown with. -/
import Derived.Test.YtmbjfekagoepgaaDkI
set_option linter.unusedSimpArgs false
set_option linter.unusedVariables false
open Go Go.Fw
namespace Go.Proofs
attribute [local irreducible] Run RunOps RunDraw pop condK guardK guardKD resK drawK RunD dK Fw.gK
set_option maxRecDepth 4000
theorem chE_zero {s : House} {l : List Bkg} {ws : List Int} (h : chE s l ws = 0) : BkOk s l ∧ l.length ≤ 12 ∧ ws.length = l.length ∧ valued ws = true ∧ chP s l ws = bestTo s l ws (2 ^ l.length) := by
  have h0 := h
  unfold chE at h
  split at h
  · rename_i e
    split at h
    · omega
    · rename_i q
      split at h
      · rename_i ha
        simp only [chArgs, Bool.and_eq_true, decide_eq_true_eq] at ha
        exact ⟨bkOk_iff.1 e, by omega, ha.1, ha.2, by simp [chP, h0]⟩
      · omega
  · rename_i e; exact absurd h e
theorem chP_len {s : House} {l : List Bkg} {ws : List Int} : (chP s l ws).1.length ≤ 1000000 := by
  by_cases h : chE s l ws = 0
  · obtain ⟨h1, h2, h3, h4, h5⟩ := chE_zero h
    have := best_val (s := s) (ws := ws) (l := l) (by omega) h4 (Nat.le_refl _)
    rw [h5]
    omega
  · simp [chP, h]
theorem ok15 : codeOk Try.f15.ntmps (bodyOf Try.f15) = true := by kernel_rfl
theorem chooses15 {h : Hp} {cv mv lv pv : Value} {s : House} {l : List Bkg} {ws : List Int} (a : HouseAt h cv mv s) (bl : BksAt h lv l) (hw : SlOk h pv 1 ws.length (ws.map I)) : CallX Try.prog 15 #[.agg #[cv, mv, I s.cake], lv, pv] h (.bool true) h := by
  refine run_flat Tok hm Try.func15 (by kernel_rfl) (by kernel_rfl) ok15 (Nat.le_of_ble_eq_true rfl) ?_
  by_cases q1 : 6 < l.length ∧ l.length ≤ 12
  ·
    repeat (first
      | with_reducible refine call_step (works18 _) ?_
      | with_reducible refine draw_enter ?_
      | with_reducible refine q_call (works18 _) ROk.refl ?_
      | with_reducible exact rok_nil
      | ((with_reducible refine rok_cons ?_ ?_); (first | exact Or.inl (by decide +kernel) | exact Or.inr (by simp [bodyOf, Try.f15, bl.len, q1.1, q1.2]) | exact Or.inr (fun hlt => by simp [kill_none, Hp.alloc_g, Nat.ne_of_lt hlt])))
      | with_reducible refine rok_and ?_ ?_
      | ((with_reducible refine eok_cons ?_ ?_); (first | exact Or.inl (by decide +kernel) | exact Or.inr (by simp [bodyOf, Try.f15, bl.len, q1.1, q1.2]) | exact Or.inr (fun hlt => by simp [kill_none, Hp.alloc_g, Nat.ne_of_lt hlt])))
      | with_reducible refine eok_and ?_ ?_
      | simp -implicitDefEqProofs [bodyOf, Try.f15, bl.len, q1.1, q1.2])
  have hl : l.length ≤ 6 ∨ 12 < l.length := by omega
  cases q : largeB s l with
  | true =>
    by_cases q2 : 6 < l.length
    · have q3 : ¬ l.length ≤ 12 := by omega
      repeat (first
        | with_reducible refine call_step (large17 (a.grow (by simp)) (bl.grow (by simp))) ?_
        | with_reducible refine call_step (works18 _) ?_
        | with_reducible refine draw_enter ?_
        | with_reducible refine q_call (large17 (a.grow (by simp)) (bl.grow (by simp))) ROk.refl ?_
        | with_reducible refine q_call (works18 _) ROk.refl ?_
        | with_reducible exact rok_nil
        | ((with_reducible refine rok_cons ?_ ?_); (first | exact Or.inl (by decide +kernel) | exact Or.inr (by simp [bodyOf, Try.f15, bl.len, q2, q3, q]) | exact Or.inr (fun hlt => by simp [kill_none, Hp.alloc_g, Nat.ne_of_lt hlt])))
        | with_reducible refine rok_and ?_ ?_
        | ((with_reducible refine eok_cons ?_ ?_); (first | exact Or.inl (by decide +kernel) | exact Or.inr (by simp [bodyOf, Try.f15, bl.len, q2, q3, q]) | exact Or.inr (fun hlt => by simp [kill_none, Hp.alloc_g, Nat.ne_of_lt hlt])))
        | with_reducible refine eok_and ?_ ?_
        | simp -implicitDefEqProofs [bodyOf, Try.f15, bl.len, q2, q3, q])
    ·
      repeat (first
        | with_reducible refine call_step (large17 (a.grow (by simp)) (bl.grow (by simp))) ?_
        | with_reducible refine call_step (works18 _) ?_
        | with_reducible refine draw_enter ?_
        | with_reducible refine q_call (large17 (a.grow (by simp)) (bl.grow (by simp))) ROk.refl ?_
        | with_reducible refine q_call (works18 _) ROk.refl ?_
        | with_reducible exact rok_nil
        | ((with_reducible refine rok_cons ?_ ?_); (first | exact Or.inl (by decide +kernel) | exact Or.inr (by simp [bodyOf, Try.f15, bl.len, q2, q]) | exact Or.inr (fun hlt => by simp [kill_none, Hp.alloc_g, Nat.ne_of_lt hlt])))
        | with_reducible refine rok_and ?_ ?_
        | ((with_reducible refine eok_cons ?_ ?_); (first | exact Or.inl (by decide +kernel) | exact Or.inr (by simp [bodyOf, Try.f15, bl.len, q2, q]) | exact Or.inr (fun hlt => by simp [kill_none, Hp.alloc_g, Nat.ne_of_lt hlt])))
        | with_reducible refine eok_and ?_ ?_
        | simp -implicitDefEqProofs [bodyOf, Try.f15, bl.len, q2, q])
  | false =>
    by_cases q2 : 6 < l.length
    · have q3 : ¬ l.length ≤ 12 := by omega
      repeat (first
        | with_reducible refine call_step (large17 (a.grow (by simp)) (bl.grow (by simp))) ?_
        | ((with_reducible refine call_step' (choose46 (a.grow (by simp)) (bl.grow (by simp)) (hw.grow (by simp)) hl) ?_); rintro v1 h1 ⟨sl1, rfl, g1, s1⟩)
        | with_reducible refine draw_enter ?_
        | with_reducible refine q_call (large17 (a.grow (by simp)) (bl.grow (by simp))) ROk.refl ?_
        | with_reducible exact rok_nil
        | ((with_reducible refine rok_cons ?_ ?_); (first | exact Or.inl (by decide +kernel) | exact Or.inr (by simp [bodyOf, Try.f15, bl.len, q2, q3, q]) | exact Or.inr (fun hlt => by simp [kill_none, Hp.alloc_g, Nat.ne_of_lt hlt])))
        | with_reducible refine rok_and ?_ ?_
        | ((with_reducible refine eok_cons ?_ ?_); (first | exact Or.inl (by decide +kernel) | exact Or.inr (by simp [bodyOf, Try.f15, bl.len, q2, q3, q]) | exact Or.inr (fun hlt => by simp [kill_none, Hp.alloc_g, Nat.ne_of_lt hlt])))
        | with_reducible refine eok_and ?_ ?_
        | simp -implicitDefEqProofs [bodyOf, Try.f15, bl.len, q2, q3, q])
      have hg : Grow h h1 := Grow.trans (by simp) g1
      have hb : h1.g h.n = .row true 3 [cv, mv, I s.cake] := by rw [g1.2 _ (by simp)]; simp
      have hn0 : h.n < h1.n := by have := g1.1; simp at this; omega
      repeat (first
        | ((with_reducible refine call_step' (choose47 (a.grow hg) (bl.grow hg) (hw.grow hg) hl) ?_); rintro v2 h2 ⟨sl2, rfl, g2, s2⟩)
        | with_reducible refine draw_enter ?_
        | with_reducible exact rok_nil
        | ((with_reducible refine rok_cons ?_ ?_); (first | exact Or.inl (by decide +kernel) | exact Or.inr (by simp [hb, hn0]) | exact Or.inr (fun hlt => by simp [kill_none, Hp.alloc_g, Nat.ne_of_lt hlt])))
        | with_reducible refine rok_and ?_ ?_
        | ((with_reducible refine eok_cons ?_ ?_); (first | exact Or.inl (by decide +kernel) | exact Or.inr (by simp [hb, hn0]) | exact Or.inr (fun hlt => by simp [kill_none, Hp.alloc_g, Nat.ne_of_lt hlt])))
        | with_reducible refine eok_and ?_ ?_
        | simp -implicitDefEqProofs [hb, hn0])
      have hg2 : Grow h h2 := hg.trans g2
      repeat (first
        | with_reducible refine call_step (sameInts32 (s1.sl.grow g2) s2.sl chP_len) ?_
        | with_reducible refine call_step (works18 _) ?_
        | with_reducible refine draw_enter ?_
        | with_reducible refine q_call (sameInts32 (s1.sl.grow g2) s2.sl chP_len) ROk.refl ?_
        | with_reducible refine q_call (works18 _) ROk.refl ?_
        | with_reducible exact rok_nil
        | ((with_reducible refine rok_cons ?_ ?_); (first | exact Or.inl (by decide +kernel) | exact Or.inr (by simp [hg2]) | exact Or.inr (fun hlt => by simp [kill_none, Hp.alloc_g, Nat.ne_of_lt hlt])))
        | with_reducible refine rok_and ?_ ?_
        | ((with_reducible refine eok_cons ?_ ?_); (first | exact Or.inl (by decide +kernel) | exact Or.inr (by simp [hg2]) | exact Or.inr (fun hlt => by simp [kill_none, Hp.alloc_g, Nat.ne_of_lt hlt])))
        | with_reducible refine eok_and ?_ ?_
        | simp -implicitDefEqProofs [hg2])
    ·
      repeat (first
        | with_reducible refine call_step (large17 (a.grow (by simp)) (bl.grow (by simp))) ?_
        | ((with_reducible refine call_step' (choose46 (a.grow (by simp)) (bl.grow (by simp)) (hw.grow (by simp)) hl) ?_); rintro v1 h1 ⟨sl1, rfl, g1, s1⟩)
        | with_reducible refine draw_enter ?_
        | with_reducible refine q_call (large17 (a.grow (by simp)) (bl.grow (by simp))) ROk.refl ?_
        | with_reducible exact rok_nil
        | ((with_reducible refine rok_cons ?_ ?_); (first | exact Or.inl (by decide +kernel) | exact Or.inr (by simp [bodyOf, Try.f15, bl.len, q2, q]) | exact Or.inr (fun hlt => by simp [kill_none, Hp.alloc_g, Nat.ne_of_lt hlt])))
        | with_reducible refine rok_and ?_ ?_
        | ((with_reducible refine eok_cons ?_ ?_); (first | exact Or.inl (by decide +kernel) | exact Or.inr (by simp [bodyOf, Try.f15, bl.len, q2, q]) | exact Or.inr (fun hlt => by simp [kill_none, Hp.alloc_g, Nat.ne_of_lt hlt])))
        | with_reducible refine eok_and ?_ ?_
        | simp -implicitDefEqProofs [bodyOf, Try.f15, bl.len, q2, q])
      have hg : Grow h h1 := Grow.trans (by simp) g1
      have hb : h1.g h.n = .row true 3 [cv, mv, I s.cake] := by rw [g1.2 _ (by simp)]; simp
      have hn0 : h.n < h1.n := by have := g1.1; simp at this; omega
      repeat (first
        | ((with_reducible refine call_step' (choose47 (a.grow hg) (bl.grow hg) (hw.grow hg) hl) ?_); rintro v2 h2 ⟨sl2, rfl, g2, s2⟩)
        | with_reducible refine draw_enter ?_
        | with_reducible exact rok_nil
        | ((with_reducible refine rok_cons ?_ ?_); (first | exact Or.inl (by decide +kernel) | exact Or.inr (by simp [hb, hn0]) | exact Or.inr (fun hlt => by simp [kill_none, Hp.alloc_g, Nat.ne_of_lt hlt])))
        | with_reducible refine rok_and ?_ ?_
        | ((with_reducible refine eok_cons ?_ ?_); (first | exact Or.inl (by decide +kernel) | exact Or.inr (by simp [hb, hn0]) | exact Or.inr (fun hlt => by simp [kill_none, Hp.alloc_g, Nat.ne_of_lt hlt])))
        | with_reducible refine eok_and ?_ ?_
        | simp -implicitDefEqProofs [hb, hn0])
      have hg2 : Grow h h2 := hg.trans g2
      repeat (first
        | with_reducible refine call_step (sameInts32 (s1.sl.grow g2) s2.sl chP_len) ?_
        | with_reducible refine call_step (works18 _) ?_
        | with_reducible refine draw_enter ?_
        | with_reducible refine q_call (sameInts32 (s1.sl.grow g2) s2.sl chP_len) ROk.refl ?_
        | with_reducible refine q_call (works18 _) ROk.refl ?_
        | with_reducible exact rok_nil
        | ((with_reducible refine rok_cons ?_ ?_); (first | exact Or.inl (by decide +kernel) | exact Or.inr (by simp [hg2]) | exact Or.inr (fun hlt => by simp [kill_none, Hp.alloc_g, Nat.ne_of_lt hlt])))
        | with_reducible refine rok_and ?_ ?_
        | ((with_reducible refine eok_cons ?_ ?_); (first | exact Or.inl (by decide +kernel) | exact Or.inr (by simp [hg2]) | exact Or.inr (fun hlt => by simp [kill_none, Hp.alloc_g, Nat.ne_of_lt hlt])))
        | with_reducible refine eok_and ?_ ?_
        | simp -implicitDefEqProofs [hg2])
end Go.Proofs
