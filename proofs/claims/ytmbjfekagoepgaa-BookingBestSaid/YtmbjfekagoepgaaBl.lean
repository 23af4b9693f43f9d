/- Part of the proofs of the laws (see the last text of a claim): contracts of functions, and what they are shown with. -/
import Derived.Test.YtmbjfekagoepgaaBi
import Derived.Test.YtmbjfekagoepgaaFwCu
set_option linter.unusedSimpArgs false
set_option linter.unusedVariables false
open Go Go.Fw
namespace Go.Proofs
attribute [local irreducible] Run RunOps RunDraw pop condK guardK guardKD resK drawK RunD dK Fw.gK
set_option maxRecDepth 4000
theorem errBegin_ne {s : House} {l : List Bkg} {k : Nat} : errBegin s l k ≠ 3 := by
  unfold errBegin
  split
  · split
    · split <;> omega
    · omega
  · unfold errCheck
    split
    · split
      · split <;> omega
      · omega
    · omega
theorem soon_some {s : House} {l : List Bkg} {b : Bkg} {i : Nat} (h : soonO s l b = some i) : canAt s l b i = true ∧ ∀ j, j < i → canAt s l b j = false := by
  unfold soonO at h
  rw [List.find?_eq_some_iff_getElem] at h
  obtain ⟨h1, k, hk, h2, h3⟩ := h
  simp at hk h2
  subst h2
  exact ⟨h1, fun j hj => by have := h3 j hj; simpa using this⟩
theorem soon_ok {s : House} {l : List Bkg} {b : Bkg} (e : soonE s l b = 0) : addE s l (atStart b (soonV s l b)) = 0 ∧ b.start ≤ soonV s l b := by
  unfold soonE at e
  split at e
  · rename_i h0
    cases h : soonO s l b with
    | none => rw [h] at e; simp at e
    | some i =>
      have hv : soonV s l b = from0 b + i := by simp [soonV, h0, h]
      rw [hv]
      refine ⟨of_decide_eq_true (soon_some h).1, ?_⟩
      have := (from0_le (b := b)).2
      omega
  · rename_i h; exact absurd e h
theorem add_start {s : House} {l : List Bkg} {b : Bkg} (e : addE s l b = 0) : errBegin s l 1 = 0 ∧ 0 ≤ b.start ∧ b.start ≤ 1440 := by
  unfold addE at e
  split at e
  · rename_i h0
    split at e
    · have : booked s b = true := by
        cases q : booked s b with
        | true => rfl
        | false => simp [addedE, q] at e
      have := booked_iff.1 this
      exact ⟨h0, this.s1, this.s2⟩
    · omega
  · rename_i h; exact absurd e h
theorem soon_first {s : House} {l : List Bkg} {b : Bkg} {y : Int} (e : addE s l (atStart b y) = 0) (hy : b.start ≤ y) : soonE s l b = 0 ∧ soonV s l b ≤ y := by
  obtain ⟨h0, h1, h2⟩ := add_start e
  have h1 : 0 ≤ y := h1
  have h2 : y ≤ 1440 := h2
  have hf : from0 b ≤ y := by unfold from0; split <;> omega
  obtain ⟨j, hj⟩ : ∃ j : Nat, y = from0 b + j := ⟨(y - from0 b).toNat, by omega⟩
  have hc : canAt s l b j = true := by rw [canAt, ← hj]; exact decide_eq_true e
  cases h : soonO s l b with
  | none =>
    unfold soonO at h
    rw [List.find?_eq_none] at h
    have := h j (List.mem_range.2 (by omega))
    exact absurd hc this
  | some i =>
    refine ⟨by simp [soonE, h0, h], ?_⟩
    have hv : soonV s l b = from0 b + i := by simp [soonV, h0, h]
    rw [hv, hj]
    rcases Nat.lt_or_ge j i with hlt | hge
    · rw [(soon_some h).2 j hlt] at hc; cases hc
    · omega
theorem ok5 : codeOk Try.f5.ntmps (bodyOf Try.f5) = true := by kernel_rfl
theorem first5 {h : Hp} {cv mv lv : Value} {s : House} {l : List Bkg} (a : HouseAt h cv mv s) (bl : BksAt h lv l) (b : Bkg) (y : Int) : CallX Try.prog 5 #[.agg #[cv, mv, I s.cake], lv, .agg (b.cells ++ [I y]).toArray] h (.bool true) h := by
  refine run_flat Tok hm Try.func5 (by kernel_rfl) (by kernel_rfl) ok5 (Nat.le_of_ble_eq_true rfl) ?_
  cases q : largeB s l with
  | true =>
    repeat (first
      | with_reducible refine call_step (large17 (a.grow (by simp)) (bl.grow (by simp))) ?_
      | with_reducible refine call_step (works18 _) ?_
      | with_reducible refine draw_enter ?_
      | with_reducible refine q_call (large17 (a.grow (by simp)) (bl.grow (by simp))) ROk.refl ?_
      | with_reducible refine q_call (works18 _) ROk.refl ?_
      | with_reducible exact rok_nil
      | ((with_reducible refine rok_cons ?_ ?_); (first | exact Or.inl (by decide +kernel) | exact Or.inr (by simp [bodyOf, Try.f5, q]) | exact Or.inr (fun hlt => by simp [kill_none, Hp.alloc_g, Nat.ne_of_lt hlt])))
      | with_reducible refine rok_and ?_ ?_
      | ((with_reducible refine eok_cons ?_ ?_); (first | exact Or.inl (by decide +kernel) | exact Or.inr (by simp [bodyOf, Try.f5, q]) | exact Or.inr (fun hlt => by simp [kill_none, Hp.alloc_g, Nat.ne_of_lt hlt])))
      | with_reducible refine eok_and ?_ ?_
      | simp -implicitDefEqProofs [bodyOf, Try.f5, q])
  | false =>
  by_cases q4 : 4 < l.length
  ·
    repeat (first
      | with_reducible refine call_step (large17 (a.grow (by simp)) (bl.grow (by simp))) ?_
      | with_reducible refine call_step (works18 _) ?_
      | with_reducible refine draw_enter ?_
      | with_reducible refine q_call (large17 (a.grow (by simp)) (bl.grow (by simp))) ROk.refl ?_
      | with_reducible refine q_call (works18 _) ROk.refl ?_
      | with_reducible exact rok_nil
      | ((with_reducible refine rok_cons ?_ ?_); (first | exact Or.inl (by decide +kernel) | exact Or.inr (by simp [bodyOf, Try.f5, q, bl.len, q4]) | exact Or.inr (fun hlt => by simp [kill_none, Hp.alloc_g, Nat.ne_of_lt hlt])))
      | with_reducible refine rok_and ?_ ?_
      | ((with_reducible refine eok_cons ?_ ?_); (first | exact Or.inl (by decide +kernel) | exact Or.inr (by simp [bodyOf, Try.f5, q, bl.len, q4]) | exact Or.inr (fun hlt => by simp [kill_none, Hp.alloc_g, Nat.ne_of_lt hlt])))
      | with_reducible refine eok_and ?_ ?_
      | simp -implicitDefEqProofs [bodyOf, Try.f5, q, bl.len, q4])
  have hl : errCheck s l = 0 → l.length < 19 := fun e => by have := large_false q e; omega
  have g0 : ∀ o1 o2, Grow h ((h.alloc o1).alloc o2) := fun o1 o2 => by simp
  have hs := fun o1 o2 => soonest22 (b := b) (a.grow (g0 o1 o2)) (bl.grow (g0 o1 o2)) hl
  have hadd : ∀ (x : Int) (H : Hp), Grow h H → ∃ v h', CallX Try.prog 19 #[.agg #[cv, mv, I s.cake], lv, .agg #[I b.chamber, I x, I b.size, I b.tongue, .bool b.birthday, I b.rival]] H v h' ∧ GivesBk H (addE s l (atStart b x)) (addL s l (atStart b x)) v h' :=
    fun x H g => add19 (b := atStart b x) (a.grow g) (bl.grow g) hl
  by_cases e0 : soonE s l b = 0
  · obtain ⟨o1, o2⟩ := soon_ok e0
    have o2' : ¬ soonV s l b < b.start := by omega
    repeat (first
      | with_reducible refine call_step (large17 (a.grow (by simp)) (bl.grow (by simp))) ?_
      | with_reducible refine call_step (hs _ _) ?_
      | ((with_reducible refine call_step' (hadd (soonV s l b) _ (by simp)) ?_); rintro v1 h1 ⟨sl1, rfl, g1, s1⟩)
      | with_reducible refine draw_enter ?_
      | with_reducible refine q_call (large17 (a.grow (by simp)) (bl.grow (by simp))) ROk.refl ?_
      | with_reducible refine q_call (hs _ _) ROk.refl ?_
      | with_reducible exact rok_nil
      | ((with_reducible refine rok_cons ?_ ?_); (first | exact Or.inl (by decide +kernel) | exact Or.inr (by simp [bodyOf, Try.f5, q, bl.len, q4, e0]) | exact Or.inr (fun hlt => by simp [kill_none, Hp.alloc_g, Nat.ne_of_lt hlt])))
      | with_reducible refine rok_and ?_ ?_
      | ((with_reducible refine eok_cons ?_ ?_); (first | exact Or.inl (by decide +kernel) | exact Or.inr (by simp [bodyOf, Try.f5, q, bl.len, q4, e0]) | exact Or.inr (fun hlt => by simp [kill_none, Hp.alloc_g, Nat.ne_of_lt hlt])))
      | with_reducible refine eok_and ?_ ?_
      | simp -implicitDefEqProofs [bodyOf, Try.f5, q, bl.len, q4, e0])
    rw [o1]
    have hg : Grow h h1 := Grow.trans (by simp) g1
    have hn : h.n + 1 + 1 < h1.n := by have := g1.1; simp at this; omega
    have hn1 : h.n + 1 < h1.n := by omega
    have hn0 : h.n < h1.n := by omega
    have hb0 : h1.g h.n = .row true 3 [cv, mv, I s.cake] := by rw [g1.2 _ (by simp)]; simp
    have hb1 : h1.g (h.n + 1) = .row true 7 (b.cells ++ [I y]) := by rw [g1.2 _ (by simp)]; simp
    have hb2 : h1.g (h.n + 1 + 1) = .row true 6 [I b.chamber, I (soonV s l b), I b.size, I b.tongue, .bool b.birthday, I b.rival] := by rw [g1.2 _ (by simp)]; simp
    by_cases c : y < b.start
    ·
      repeat (first
        | with_reducible refine call_step (works18 _) ?_
        | with_reducible refine draw_enter ?_
        | with_reducible refine q_call (works18 _) ROk.refl ?_
        | with_reducible exact rok_nil
        | ((with_reducible refine rok_cons ?_ ?_); (first | exact Or.inl (by decide +kernel) | exact Or.inr (by simp [hb0, hb1, hb2, hn, hn1, hn0, o2', c, e0, hg]) | exact Or.inr (fun hlt => by simp [kill_none, Hp.alloc_g, Nat.ne_of_lt hlt])))
        | with_reducible refine rok_and ?_ ?_
        | ((with_reducible refine eok_cons ?_ ?_); (first | exact Or.inl (by decide +kernel) | exact Or.inr (by simp [hb0, hb1, hb2, hn, hn1, hn0, o2', c, e0, hg]) | exact Or.inr (fun hlt => by simp [kill_none, Hp.alloc_g, Nat.ne_of_lt hlt])))
        | with_reducible refine eok_and ?_ ?_
        | simp -implicitDefEqProofs [hb0, hb1, hb2, hn, hn1, hn0, o2', c, e0, hg])
    · have hgs : ∀ o, Grow h (h1.set (h.n + 1 + 1) o) := fun o => hg.set (by omega)
      repeat (first
        | ((with_reducible refine call_step' (hadd y _ (hgs _)) ?_); rintro v2 h2 ⟨sl2, rfl, g2, s2⟩)
        | with_reducible refine draw_enter ?_
        | with_reducible exact rok_nil
        | ((with_reducible refine rok_cons ?_ ?_); (first | exact Or.inl (by decide +kernel) | exact Or.inr (by simp [hb0, hb1, hb2, hn, hn1, hn0, o2', c, e0]) | exact Or.inr (fun hlt => by simp [kill_none, Hp.alloc_g, Nat.ne_of_lt hlt])))
        | with_reducible refine rok_and ?_ ?_
        | ((with_reducible refine eok_cons ?_ ?_); (first | exact Or.inl (by decide +kernel) | exact Or.inr (by simp [hb0, hb1, hb2, hn, hn1, hn0, o2', c, e0]) | exact Or.inr (fun hlt => by simp [kill_none, Hp.alloc_g, Nat.ne_of_lt hlt])))
        | with_reducible refine eok_and ?_ ?_
        | simp -implicitDefEqProofs [hb0, hb1, hb2, hn, hn1, hn0, o2', c, e0])
      have hg2 : Grow h h2 := (hgs _).trans g2
      by_cases d : addE s l (atStart b y) = 0
      · obtain ⟨-, d2⟩ := soon_first d (by omega)
        have hb3 : h2.g (h.n + 1) = .row true 7 (b.cells ++ [I y]) := by rw [g2.2 _ (by simpa using hn1), Hp.set_g, if_neg (by omega)]; exact hb1
        have hn2 : h.n + 1 < h2.n := by have := g2.1; simp at this; omega
        repeat (first
          | with_reducible refine call_step (works18 _) ?_
          | with_reducible refine draw_enter ?_
          | with_reducible refine q_call (works18 _) ROk.refl ?_
          | with_reducible exact rok_nil
          | ((with_reducible refine rok_cons ?_ ?_); (first | exact Or.inl (by decide +kernel) | exact Or.inr (by simp [d, e0, hb3, hn2, d2, hg2]) | exact Or.inr (fun hlt => by simp [kill_none, Hp.alloc_g, Nat.ne_of_lt hlt])))
          | with_reducible refine rok_and ?_ ?_
          | ((with_reducible refine eok_cons ?_ ?_); (first | exact Or.inl (by decide +kernel) | exact Or.inr (by simp [d, e0, hb3, hn2, d2, hg2]) | exact Or.inr (fun hlt => by simp [kill_none, Hp.alloc_g, Nat.ne_of_lt hlt])))
          | with_reducible refine eok_and ?_ ?_
          | simp -implicitDefEqProofs [d, e0, hb3, hn2, d2, hg2])
      ·
        repeat (first
          | with_reducible refine call_step (works18 _) ?_
          | with_reducible refine draw_enter ?_
          | with_reducible refine q_call (works18 _) ROk.refl ?_
          | with_reducible exact rok_nil
          | ((with_reducible refine rok_cons ?_ ?_); (first | exact Or.inl (by decide +kernel) | exact Or.inr (by simp [d, hg2]) | exact Or.inr (fun hlt => by simp [kill_none, Hp.alloc_g, Nat.ne_of_lt hlt])))
          | with_reducible refine rok_and ?_ ?_
          | ((with_reducible refine eok_cons ?_ ?_); (first | exact Or.inl (by decide +kernel) | exact Or.inr (by simp [d, hg2]) | exact Or.inr (fun hlt => by simp [kill_none, Hp.alloc_g, Nat.ne_of_lt hlt])))
          | with_reducible refine eok_and ?_ ?_
          | simp -implicitDefEqProofs [d, hg2])
  · by_cases e3 : soonE s l b = 3
    · by_cases c : y < b.start
      ·
        repeat (first
          | with_reducible refine call_step (large17 (a.grow (by simp)) (bl.grow (by simp))) ?_
          | with_reducible refine call_step (hs _ _) ?_
          | with_reducible refine call_step (works18 _) ?_
          | with_reducible refine draw_enter ?_
          | with_reducible refine q_call (large17 (a.grow (by simp)) (bl.grow (by simp))) ROk.refl ?_
          | with_reducible refine q_call (hs _ _) ROk.refl ?_
          | with_reducible refine q_call (works18 _) ROk.refl ?_
          | with_reducible exact rok_nil
          | ((with_reducible refine rok_cons ?_ ?_); (first | exact Or.inl (by decide +kernel) | exact Or.inr (by simp [bodyOf, Try.f5, q, bl.len, q4, e0, e3, c]) | exact Or.inr (fun hlt => by simp [kill_none, Hp.alloc_g, Nat.ne_of_lt hlt])))
          | with_reducible refine rok_and ?_ ?_
          | ((with_reducible refine eok_cons ?_ ?_); (first | exact Or.inl (by decide +kernel) | exact Or.inr (by simp [bodyOf, Try.f5, q, bl.len, q4, e0, e3, c]) | exact Or.inr (fun hlt => by simp [kill_none, Hp.alloc_g, Nat.ne_of_lt hlt])))
          | with_reducible refine eok_and ?_ ?_
          | simp -implicitDefEqProofs [bodyOf, Try.f5, q, bl.len, q4, e0, e3, c])
      · have d : ¬ addE s l (atStart b y) = 0 := fun d => e0 (soon_first d (by omega)).1
        repeat (first
          | with_reducible refine call_step (large17 (a.grow (by simp)) (bl.grow (by simp))) ?_
          | with_reducible refine call_step (hs _ _) ?_
          | ((with_reducible refine call_step' (hadd y _ (by simp)) ?_); rintro v2 h2 ⟨sl2, rfl, g2, s2⟩)
          | with_reducible refine draw_enter ?_
          | with_reducible refine q_call (large17 (a.grow (by simp)) (bl.grow (by simp))) ROk.refl ?_
          | with_reducible refine q_call (hs _ _) ROk.refl ?_
          | with_reducible exact rok_nil
          | ((with_reducible refine rok_cons ?_ ?_); (first | exact Or.inl (by decide +kernel) | exact Or.inr (by simp [bodyOf, Try.f5, q, bl.len, q4, e0, e3, c]) | exact Or.inr (fun hlt => by simp [kill_none, Hp.alloc_g, Nat.ne_of_lt hlt])))
          | with_reducible refine rok_and ?_ ?_
          | ((with_reducible refine eok_cons ?_ ?_); (first | exact Or.inl (by decide +kernel) | exact Or.inr (by simp [bodyOf, Try.f5, q, bl.len, q4, e0, e3, c]) | exact Or.inr (fun hlt => by simp [kill_none, Hp.alloc_g, Nat.ne_of_lt hlt])))
          | with_reducible refine eok_and ?_ ?_
          | simp -implicitDefEqProofs [bodyOf, Try.f5, q, bl.len, q4, e0, e3, c])
        have hg2 : Grow h h2 := Grow.trans (by simp) g2
        repeat (first
          | with_reducible refine call_step (works18 _) ?_
          | with_reducible refine draw_enter ?_
          | with_reducible refine q_call (works18 _) ROk.refl ?_
          | with_reducible exact rok_nil
          | ((with_reducible refine rok_cons ?_ ?_); (first | exact Or.inl (by decide +kernel) | exact Or.inr (by simp [d, hg2]) | exact Or.inr (fun hlt => by simp [kill_none, Hp.alloc_g, Nat.ne_of_lt hlt])))
          | with_reducible refine rok_and ?_ ?_
          | ((with_reducible refine eok_cons ?_ ?_); (first | exact Or.inl (by decide +kernel) | exact Or.inr (by simp [d, hg2]) | exact Or.inr (fun hlt => by simp [kill_none, Hp.alloc_g, Nat.ne_of_lt hlt])))
          | with_reducible refine eok_and ?_ ?_
          | simp -implicitDefEqProofs [d, hg2])
    ·
      repeat (first
        | with_reducible refine call_step (large17 (a.grow (by simp)) (bl.grow (by simp))) ?_
        | with_reducible refine call_step (hs _ _) ?_
        | with_reducible refine call_step (works18 _) ?_
        | with_reducible refine draw_enter ?_
        | with_reducible refine q_call (large17 (a.grow (by simp)) (bl.grow (by simp))) ROk.refl ?_
        | with_reducible refine q_call (hs _ _) ROk.refl ?_
        | with_reducible refine q_call (works18 _) ROk.refl ?_
        | with_reducible exact rok_nil
        | ((with_reducible refine rok_cons ?_ ?_); (first | exact Or.inl (by decide +kernel) | exact Or.inr (by simp [bodyOf, Try.f5, q, bl.len, q4, e0, e3]) | exact Or.inr (fun hlt => by simp [kill_none, Hp.alloc_g, Nat.ne_of_lt hlt])))
        | with_reducible refine rok_and ?_ ?_
        | ((with_reducible refine eok_cons ?_ ?_); (first | exact Or.inl (by decide +kernel) | exact Or.inr (by simp [bodyOf, Try.f5, q, bl.len, q4, e0, e3]) | exact Or.inr (fun hlt => by simp [kill_none, Hp.alloc_g, Nat.ne_of_lt hlt])))
        | with_reducible refine eok_and ?_ ?_
        | simp -implicitDefEqProofs [bodyOf, Try.f5, q, bl.len, q4, e0, e3])
end Go.Proofs

set_option linter.unusedSimpArgs false
set_option linter.unusedVariables false
open Go Go.Fw
namespace Go.Proofs
attribute [local irreducible] Run RunOps RunDraw pop condK guardK guardKD resK drawK RunD dK Fw.gK
set_option maxRecDepth 4000
def inAt (s : House) (l : List Bkg) (c : Nat) (t : Int) (k : Nat) : Bool := decide ((gB l k).chamber = c) && decide ((gB l k).start ≤ t) && decide (t < roomEnd s (gB l k))
def cntAt (s : House) (l : List Bkg) (c : Nat) (t : Int) : Nat → Nat
  | 0 => 0
  | k + 1 => cntAt s l c t k + if inAt s l c t k then 1 else 0
theorem cntAt_pos {s : House} {l : List Bkg} {c : Nat} {t : Int} : ∀ {k : Nat}, 0 < cntAt s l c t k → ∃ j, j < k ∧ inAt s l c t j = true
  | k + 1, h => by
    simp only [cntAt] at h
    by_cases q : inAt s l c t k = true
    · exact ⟨k, by omega, q⟩
    · rw [if_neg q] at h
      obtain ⟨j, h1, h2⟩ := cntAt_pos (k := k) (by omega)
      exact ⟨j, by omega, h2⟩
theorem cntAt_le {s : House} {l : List Bkg} {c : Nat} {t : Int} : ∀ {k : Nat}, cntAt s l c t k ≤ k
  | 0 => Nat.le_refl _
  | k + 1 => by have := cntAt_le (s := s) (l := l) (c := c) (t := t) (k := k); simp only [cntAt]; split <;> omega
theorem cntAt_one {s : House} {l : List Bkg} {c : Nat} {t : Int} (hf : fitsOf s l = true) : ∀ {k : Nat}, k ≤ l.length → cntAt s l c t k ≤ 1
  | 0, _ => by simp [cntAt]
  | k + 1, hk => by
    have ih := cntAt_one hf (c := c) (t := t) (k := k) (by omega)
    simp only [cntAt]
    split
    · rename_i q
      rcases Nat.eq_zero_or_pos (cntAt s l c t k) with h0 | h0
      · omega
      · obtain ⟨j, h1, h2⟩ := cntAt_pos h0
        have hc := (fitsOf_iff.1 hf).1 j k h1 (by omega)
        simp only [inAt, Bool.and_eq_true, decide_eq_true_eq] at q h2
        have : clash s (gB l j) (gB l k) = true := by
          simp only [clash, Bool.and_eq_true, decide_eq_true_eq]
          refine ⟨by rw [q.1.1, h2.1.1], by omega, by omega⟩
        rw [this] at hc
        cases hc
    · omega
def rivTo (l : List Bkg) (i : Nat) : Bool := (List.range i).all fun j => !rivalBad l (gB l j)
theorem rivTo_succ {l : List Bkg} {i : Nat} : rivTo l (i + 1) = (rivTo l i && !rivalBad l (gB l i)) := by simp [rivTo, List.range_succ]
theorem rivTo_all {l : List Bkg} : rivTo l l.length = !l.any (rivalBad l) := by
  rw [Bool.eq_iff_iff]
  simp only [rivTo, List.all_eq_true, List.mem_range, Bool.not_eq_true', List.any_eq_false, Bool.not_eq_true]
  constructor
  · intro h b hb
    obtain ⟨i, hi, rfl⟩ := mem_gB hb
    exact h i hi
  · intro h i hi
    exact h _ (gB_mem hi)
theorem inner7 {h6 : Hp} {cv mv lv : Value} {s : House} {l : List Bkg} (a : HouseAt h6 cv mv s) (bl : BksAt h6 lv l) (w : BkOk s l) {p c k : Nat} {t : Int} (hk : k < l.length) (hb : h6.g p = .row true 3 [cv, mv, I s.cake]) (hp : p < h6.n) {f6 : Vars} (f3 : f6 3 = .pointer (some ⟨p, 0, none⟩)) (f1 : f6 1 = lv)
    (f2 : f6 2 = I t) (f14 : f6 14 = I c) (h16 : f6 16 = I k) (h15 : f6 15 = I (cntAt s l c t k : Nat)) {C : Code} (hC : C = (loopsOf (bodyOf Try.f7)).getD 2 .skip) {K : Exit → Vars → Hp → Prop}
    (kk : ∀ f', f' 16 = I (k + 1 : Nat) → f' 15 = I (cntAt s l c t (k + 1) : Nat) → K .normal f' h6) : Run Try.prog T 153 C (pop Try.prog T 153 K []) f6 h6 := by
  subst hC
  have l20 := w.l20
  have r1 := bl.ref (by omega)
  have lt1 := bl.lt (by omega)
  have l6 := ld_bk bl rfl hk
  have l0 := ld_bk0 bl rfl hk
  have l1 := ld_bk1 bl rfl hk
  have hva := a.va
  have hw := wrap_succ hk (by omega)
  have hle := cntAt_le (s := s) (l := l) (c := c) (t := t) (k := k)
  have hwc : IntKind.i64.wrap ((cntAt s l c t k : Int) + 1) = (cntAt s l c t k : Int) + 1 := IntWalk.i64_in _ (by omega)
  simp -implicitDefEqProofs [bodyOf, Try.f7, loopsOf]
  repeat (first
    | with_reducible refine call_step (ends29 a w.o (w.b k hk).toPlaced) ?_
    | with_reducible refine draw_enter ?_
    | with_reducible refine q_call (ends29 a w.o (w.b k hk).toPlaced) ROk.refl ?_
    | with_reducible exact rok_nil
    | ((with_reducible refine rok_cons ?_ ?_); (first | exact Or.inl (by decide +kernel) | exact Or.inr (by simp [f3, f1, f2, f14, h16, h15, bl.len, hk, r1, lt1, l6, l0, hb, hp, hva]) | exact Or.inr (fun hlt => by simp [kill_none, Hp.alloc_g, Nat.ne_of_lt hlt])))
    | with_reducible refine rok_and ?_ ?_
    | ((with_reducible refine eok_cons ?_ ?_); (first | exact Or.inl (by decide +kernel) | exact Or.inr (by simp [f3, f1, f2, f14, h16, h15, bl.len, hk, r1, lt1, l6, l0, hb, hp, hva]) | exact Or.inr (fun hlt => by simp [kill_none, Hp.alloc_g, Nat.ne_of_lt hlt])))
    | with_reducible refine eok_and ?_ ?_
    | simp -implicitDefEqProofs [f3, f1, f2, f14, h16, h15, bl.len, hk, r1, lt1, l6, l0, hb, hp, hva])
  by_cases q1 : (gB l k).chamber = c <;> by_cases q2 : (gB l k).start ≤ t <;> by_cases q3 : t < roomEnd s (gB l k)
  all_goals
    repeat (first
      | with_reducible refine draw_enter ?_
      | with_reducible exact rok_nil
      | ((with_reducible refine rok_cons ?_ ?_); (first | exact Or.inl (by decide +kernel) | exact Or.inr (by simp [q1, q2, q3, f3, f1, f2, f14, h16, h15, hk, r1, lt1, l1, hw, hwc]) | exact Or.inr (fun hlt => by simp [kill_none, Hp.alloc_g, Nat.ne_of_lt hlt])))
      | with_reducible refine rok_and ?_ ?_
      | ((with_reducible refine eok_cons ?_ ?_); (first | exact Or.inl (by decide +kernel) | exact Or.inr (by simp [q1, q2, q3, f3, f1, f2, f14, h16, h15, hk, r1, lt1, l1, hw, hwc]) | exact Or.inr (fun hlt => by simp [kill_none, Hp.alloc_g, Nat.ne_of_lt hlt])))
      | with_reducible refine eok_and ?_ ?_
      | simp -implicitDefEqProofs [q1, q2, q3, f3, f1, f2, f14, h16, h15, hk, r1, lt1, l1, hw, hwc])
  all_goals exact kk _ (by simp [h16, hw]) (by simp [cntAt, inAt, q1, q2, q3, h15, hwc])
theorem ok7 : codeOk Try.f7.ntmps (bodyOf Try.f7) = true := by kernel_rfl
theorem alone7 {h : Hp} {cv mv lv : Value} {s : House} {l : List Bkg} (a : HouseAt h cv mv s) (bl : BksAt h lv l) (t : Int) : CallX Try.prog 7 #[.agg #[cv, mv, I s.cake], lv, I t] h (.bool true) h := by
  refine run_flat Tok hm Try.func7 (by kernel_rfl) (by kernel_rfl) ok7 (Nat.le_of_ble_eq_true rfl) ?_
  by_cases e : errCheck s l = 0
  case neg =>
    repeat (first
      | with_reducible refine call_step (check26 (a.grow (by simp)) (bl.grow (by simp))) ?_
      | with_reducible refine call_step (works18 _) ?_
      | with_reducible refine draw_enter ?_
      | with_reducible refine q_call (check26 (a.grow (by simp)) (bl.grow (by simp))) ROk.refl ?_
      | with_reducible refine q_call (works18 _) ROk.refl ?_
      | with_reducible exact rok_nil
      | ((with_reducible refine rok_cons ?_ ?_); (first | exact Or.inl (by decide +kernel) | exact Or.inr (by simp [bodyOf, Try.f7, e]) | exact Or.inr (fun hlt => by simp [kill_none, Hp.alloc_g, Nat.ne_of_lt hlt])))
      | with_reducible refine rok_and ?_ ?_
      | ((with_reducible refine eok_cons ?_ ?_); (first | exact Or.inl (by decide +kernel) | exact Or.inr (by simp [bodyOf, Try.f7, e]) | exact Or.inr (fun hlt => by simp [kill_none, Hp.alloc_g, Nat.ne_of_lt hlt])))
      | with_reducible refine eok_and ?_ ?_
      | simp -implicitDefEqProofs [bodyOf, Try.f7, e])
  have w := bkOk_iff.1 e
  have l20 := w.l20
  have hfe : fitsE s l = fitsOf s l := by simp [fitsE, e]
  have hto : takenOf s l = takenL s l := by simp [takenOf, e]
  repeat (first
    | with_reducible refine call_step (check26 (a.grow (by simp)) (bl.grow (by simp))) ?_
    | with_reducible refine call_step (fits27 (a.grow (by simp)) (bl.grow (by simp))) ?_
    | ((with_reducible refine call_step' (taken28 (a.grow (by simp)) (bl.grow (by simp))) ?_); rintro v1 h1 ⟨sl1, rfl, g1, s1⟩)
    | with_reducible refine draw_enter ?_
    | with_reducible refine q_call (check26 (a.grow (by simp)) (bl.grow (by simp))) ROk.refl ?_
    | with_reducible refine q_call (fits27 (a.grow (by simp)) (bl.grow (by simp))) ROk.refl ?_
    | with_reducible exact rok_nil
    | ((with_reducible refine rok_cons ?_ ?_); (first | exact Or.inl (by decide +kernel) | exact Or.inr (by simp [bodyOf, Try.f7, e, hfe]) | exact Or.inr (fun hlt => by simp [kill_none, Hp.alloc_g, Nat.ne_of_lt hlt])))
    | with_reducible refine rok_and ?_ ?_
    | ((with_reducible refine eok_cons ?_ ?_); (first | exact Or.inl (by decide +kernel) | exact Or.inr (by simp [bodyOf, Try.f7, e, hfe]) | exact Or.inr (fun hlt => by simp [kill_none, Hp.alloc_g, Nat.ne_of_lt hlt])))
    | with_reducible refine eok_and ?_ ?_
    | simp -implicitDefEqProofs [bodyOf, Try.f7, e, hfe])
  rw [hto] at s1
  have hg : Grow h h1 := Grow.trans (by simp) g1
  have hb : h1.g h.n = .row true 3 [cv, mv, I s.cake] := by rw [g1.2 _ (by simp)]; simp
  have hn0 : h.n < h1.n := by have := g1.1; simp at this; omega
  have k1 := s1.sl
  have hemp : fitsOf s l = true → ¬ 0 < (takenL s l).length := fun hf => by
    simp only [fitsOf, Bool.and_eq_true, List.isEmpty_iff] at hf
    rw [hf.1]; simp
  have hfit : fitsOf s l = (decide ((takenL s l).length = 0) && rivTo l l.length) := by rw [rivTo_all, fitsOf, isEmpty_len]
  have hl1 : (takenL s l).length ≤ 400 := takenL_len l20
  obtain ⟨F, hF⟩ : ∃ F, F = fitsOf s l := ⟨_, rfl⟩
  rw [← hF] at hemp hfit ⊢
  obtain ⟨tk, htk⟩ : ∃ tk, tk = (takenL s l).length := ⟨_, rfl⟩
  have klen := k1.len
  rw [← htk] at hemp hfit klen hl1
  with_reducible refine guard_cut (fun f' H' => f' 53 = .bool false ∧ H' = h1) ?_ ?_
  · cases F with
    | false =>
      repeat (first
        | with_reducible refine draw_enter ?_
        | with_reducible exact rok_nil
        | ((with_reducible refine rok_cons ?_ ?_); (first | exact Or.inl (by decide +kernel) | exact Or.inr (by simp [klen]) | exact Or.inr (fun hlt => by simp [kill_none, Hp.alloc_g, Nat.ne_of_lt hlt])))
        | with_reducible refine rok_and ?_ ?_
        | ((with_reducible refine eok_cons ?_ ?_); (first | exact Or.inl (by decide +kernel) | exact Or.inr (by simp [klen]) | exact Or.inr (fun hlt => by simp [kill_none, Hp.alloc_g, Nat.ne_of_lt hlt])))
        | with_reducible refine eok_and ?_ ?_
        | simp -implicitDefEqProofs [klen])
    | true =>
      have h0 : tk = 0 := by have := hemp rfl; omega
      repeat (first
        | with_reducible refine draw_enter ?_
        | with_reducible exact rok_nil
        | ((with_reducible refine rok_cons ?_ ?_); (first | exact Or.inl (by decide +kernel) | exact Or.inr (by simp [klen, h0]) | exact Or.inr (fun hlt => by simp [kill_none, Hp.alloc_g, Nat.ne_of_lt hlt])))
        | with_reducible refine rok_and ?_ ?_
        | ((with_reducible refine eok_cons ?_ ?_); (first | exact Or.inl (by decide +kernel) | exact Or.inr (by simp [klen, h0]) | exact Or.inr (fun hlt => by simp [kill_none, Hp.alloc_g, Nat.ne_of_lt hlt])))
        | with_reducible refine eok_and ?_ ?_
        | simp -implicitDefEqProofs [klen, h0])
  rintro f1 H1 ⟨h53, rfl⟩ fr1
  repeat (first
    | with_reducible refine draw_enter ?_
    | with_reducible exact rok_nil
    | ((with_reducible refine rok_cons ?_ ?_); (first | exact Or.inl (by decide +kernel) | exact Or.inr (by simp [h53, fr1, freshT, bl.len]) | exact Or.inr (fun hlt => by simp [kill_none, Hp.alloc_g, Nat.ne_of_lt hlt])))
    | with_reducible refine rok_and ?_ ?_
    | ((with_reducible refine eok_cons ?_ ?_); (first | exact Or.inl (by decide +kernel) | exact Or.inr (by simp [h53, fr1, freshT, bl.len]) | exact Or.inr (fun hlt => by simp [kill_none, Hp.alloc_g, Nat.ne_of_lt hlt])))
    | with_reducible refine eok_and ?_ ?_
    | simp -implicitDefEqProofs [h53, fr1, freshT, bl.len])
  refine run_for Tok hm (by kernel_rfl) [11, 12, 13, 54, 55, 56, 57, 58, 59, 60, 61, 62, 63, 64, 65, 66, 67, 68, 69, 70, 71, 72, 73, 74, 75, 76, 77, 78, 79, 80, 81, 82, 83, 84, 85, 86, 87, 88, 89, 90, 91, 92, 93] (by kernel_rfl) H1.n l.length (fun i f3 h3 => f3 12 = I i ∧ f3 11 = .bool (rivTo l i)) ?_ ?_ ?_
  · exact ⟨by simp, by simp [rivTo]⟩
  · rintro i f3 h3 hi ⟨h12, h11⟩ fr3 hu3
    have g3 : Grow h h3 := hg.trans hu3
    have b3 := bl.grow g3
    have r1 := b3.ref (by omega)
    have lt1 := b3.lt (by omega)
    have l0 := ld_bk0 b3 rfl hi
    have l1 := ld_bk1 b3 rfl hi
    have l5 := ld_bk5 b3 rfl hi
    have hw := wrap_succ hi (by omega)
    have hs := rivTo_succ (l := l) (i := i)
    by_cases q1 : 0 ≤ (gB l i).rival
    · have c1 := w.rlt (gB_mem hi) q1
      have c2 : (gB l i).rival < l.length := by omega
      have m0 := ld_bk0 b3 rfl c1
      have m1 := ld_bk1 b3 rfl c1
      cases q2 : rivTo l i with
      | false =>
        rw [q2] at hs h11
        repeat (first
          | with_reducible refine draw_enter ?_
          | with_reducible exact rok_nil
          | ((with_reducible refine rok_cons ?_ ?_); (first | exact Or.inl (by decide +kernel) | exact Or.inr (by simp [h12, h11, fr3, fr1, freshT, bl.len, hi, r1, lt1, l5, q1, hw, hs]) | exact Or.inr (fun hlt => by simp [kill_none, Hp.alloc_g, Nat.ne_of_lt hlt])))
          | with_reducible refine rok_and ?_ ?_
          | ((with_reducible refine eok_cons ?_ ?_); (first | exact Or.inl (by decide +kernel) | exact Or.inr (by simp [h12, h11, fr3, fr1, freshT, bl.len, hi, r1, lt1, l5, q1, hw, hs]) | exact Or.inr (fun hlt => by simp [kill_none, Hp.alloc_g, Nat.ne_of_lt hlt])))
          | with_reducible refine eok_and ?_ ?_
          | simp -implicitDefEqProofs [h12, h11, fr3, fr1, freshT, bl.len, hi, r1, lt1, l5, q1, hw, hs])
      | true =>
        rw [q2] at hs h11
        repeat (first
          | with_reducible refine draw_enter ?_
          | with_reducible exact rok_nil
          | ((with_reducible refine rok_cons ?_ ?_); (first | exact Or.inl (by decide +kernel) | exact Or.inr (by simp [h12, h11, fr3, fr1, freshT, bl.len, hi, r1, lt1, l5, l1, m1, q1, c2]) | exact Or.inr (fun hlt => by simp [kill_none, Hp.alloc_g, Nat.ne_of_lt hlt])))
          | with_reducible refine rok_and ?_ ?_
          | ((with_reducible refine eok_cons ?_ ?_); (first | exact Or.inl (by decide +kernel) | exact Or.inr (by simp [h12, h11, fr3, fr1, freshT, bl.len, hi, r1, lt1, l5, l1, m1, q1, c2]) | exact Or.inr (fun hlt => by simp [kill_none, Hp.alloc_g, Nat.ne_of_lt hlt])))
          | with_reducible refine eok_and ?_ ?_
          | simp -implicitDefEqProofs [h12, h11, fr3, fr1, freshT, bl.len, hi, r1, lt1, l5, l1, m1, q1, c2])
        generalize hd1 : decide ((gB l (gB l i).rival.toNat).start = (gB l i).start) = d1
        cases d1 with
        | false =>
          have hs2 : rivTo l (i + 1) = false := by rw [hs]; simp [rivalBad, q1, hd1]
          repeat (first
            | with_reducible refine draw_enter ?_
            | with_reducible exact rok_nil
            | ((with_reducible refine rok_cons ?_ ?_); (first | exact Or.inl (by decide +kernel) | exact Or.inr (by simp [h12, fr3, fr1, freshT, bl.len, hi, hw, hs2]) | exact Or.inr (fun hlt => by simp [kill_none, Hp.alloc_g, Nat.ne_of_lt hlt])))
            | with_reducible refine rok_and ?_ ?_
            | ((with_reducible refine eok_cons ?_ ?_); (first | exact Or.inl (by decide +kernel) | exact Or.inr (by simp [h12, fr3, fr1, freshT, bl.len, hi, hw, hs2]) | exact Or.inr (fun hlt => by simp [kill_none, Hp.alloc_g, Nat.ne_of_lt hlt])))
            | with_reducible refine eok_and ?_ ?_
            | simp -implicitDefEqProofs [h12, fr3, fr1, freshT, bl.len, hi, hw, hs2])
        | true =>
          repeat (first
            | with_reducible refine draw_enter ?_
            | with_reducible exact rok_nil
            | ((with_reducible refine rok_cons ?_ ?_); (first | exact Or.inl (by decide +kernel) | exact Or.inr (by simp [h12, fr3, fr1, freshT, bl.len, hi, r1, lt1, l0, m0, q1, c2]) | exact Or.inr (fun hlt => by simp [kill_none, Hp.alloc_g, Nat.ne_of_lt hlt])))
            | with_reducible refine rok_and ?_ ?_
            | ((with_reducible refine eok_cons ?_ ?_); (first | exact Or.inl (by decide +kernel) | exact Or.inr (by simp [h12, fr3, fr1, freshT, bl.len, hi, r1, lt1, l0, m0, q1, c2]) | exact Or.inr (fun hlt => by simp [kill_none, Hp.alloc_g, Nat.ne_of_lt hlt])))
            | with_reducible refine eok_and ?_ ?_
            | simp -implicitDefEqProofs [h12, fr3, fr1, freshT, bl.len, hi, r1, lt1, l0, m0, q1, c2])
          generalize hd2 : decide ((gB l (gB l i).rival.toNat).chamber = (gB l i).chamber) = d2
          have hs2 : rivTo l (i + 1) = !d2 := by rw [hs]; simp [rivalBad, q1, hd1, hd2]
          cases d2
          all_goals
            repeat (first
              | with_reducible refine draw_enter ?_
              | with_reducible exact rok_nil
              | ((with_reducible refine rok_cons ?_ ?_); (first | exact Or.inl (by decide +kernel) | exact Or.inr (by simp [h12, fr3, fr1, freshT, bl.len, hi, hw, hs2]) | exact Or.inr (fun hlt => by simp [kill_none, Hp.alloc_g, Nat.ne_of_lt hlt])))
              | with_reducible refine rok_and ?_ ?_
              | ((with_reducible refine eok_cons ?_ ?_); (first | exact Or.inl (by decide +kernel) | exact Or.inr (by simp [h12, fr3, fr1, freshT, bl.len, hi, hw, hs2]) | exact Or.inr (fun hlt => by simp [kill_none, Hp.alloc_g, Nat.ne_of_lt hlt])))
              | with_reducible refine eok_and ?_ ?_
              | simp -implicitDefEqProofs [h12, fr3, fr1, freshT, bl.len, hi, hw, hs2])
    · have hs2 : rivTo l (i + 1) = rivTo l i := by rw [hs]; simp [rivalBad, q1]
      repeat (first
        | with_reducible refine draw_enter ?_
        | with_reducible exact rok_nil
        | ((with_reducible refine rok_cons ?_ ?_); (first | exact Or.inl (by decide +kernel) | exact Or.inr (by simp [h12, h11, fr3, fr1, freshT, bl.len, hi, r1, lt1, l5, q1, hw, hs2]) | exact Or.inr (fun hlt => by simp [kill_none, Hp.alloc_g, Nat.ne_of_lt hlt])))
        | with_reducible refine rok_and ?_ ?_
        | ((with_reducible refine eok_cons ?_ ?_); (first | exact Or.inl (by decide +kernel) | exact Or.inr (by simp [h12, h11, fr3, fr1, freshT, bl.len, hi, r1, lt1, l5, q1, hw, hs2]) | exact Or.inr (fun hlt => by simp [kill_none, Hp.alloc_g, Nat.ne_of_lt hlt])))
        | with_reducible refine eok_and ?_ ?_
        | simp -implicitDefEqProofs [h12, h11, fr3, fr1, freshT, bl.len, hi, r1, lt1, l5, q1, hw, hs2])
  · rintro f3 h3 ⟨h12, h11⟩ fr3 hu3
    have g3 : Grow h h3 := hg.trans hu3
    have hb3 : h3.g h.n = .row true 3 [cv, mv, I s.cake] := by rw [hu3.2 _ hn0]; exact hb
    have hn3 : h.n < h3.n := by have := hu3.1; omega
    repeat (first
      | with_reducible refine draw_enter ?_
      | with_reducible exact rok_nil
      | ((with_reducible refine rok_cons ?_ ?_); (first | exact Or.inl (by decide +kernel) | exact Or.inr (by simp [h12, h11, fr3, fr1, freshT, bl.len, klen]) | exact Or.inr (fun hlt => by simp [kill_none, Hp.alloc_g, Nat.ne_of_lt hlt])))
      | with_reducible refine rok_and ?_ ?_
      | ((with_reducible refine eok_cons ?_ ?_); (first | exact Or.inl (by decide +kernel) | exact Or.inr (by simp [h12, h11, fr3, fr1, freshT, bl.len, klen]) | exact Or.inr (fun hlt => by simp [kill_none, Hp.alloc_g, Nat.ne_of_lt hlt])))
      | with_reducible refine eok_and ?_ ?_
      | simp -implicitDefEqProofs [h12, h11, fr3, fr1, freshT, bl.len, klen])
    with_reducible refine guard_cut (fun f' H' => f' 101 = .bool false ∧ H' = h3) ?_ ?_
    · by_cases q1 : tk = 0 <;> cases q2 : rivTo l l.length <;> (rw [q2] at hfit h11; simp only [q1, decide_true, decide_false, Bool.and_true, Bool.and_false] at hfit) <;> subst hfit
      all_goals
        repeat (first
          | with_reducible refine draw_enter ?_
          | with_reducible exact rok_nil
          | ((with_reducible refine rok_cons ?_ ?_); (first | exact Or.inl (by decide +kernel) | exact Or.inr (by simp [q1, h11, fr3, fr1, freshT]) | exact Or.inr (fun hlt => by simp [kill_none, Hp.alloc_g, Nat.ne_of_lt hlt])))
          | with_reducible refine rok_and ?_ ?_
          | ((with_reducible refine eok_cons ?_ ?_); (first | exact Or.inl (by decide +kernel) | exact Or.inr (by simp [q1, h11, fr3, fr1, freshT]) | exact Or.inr (fun hlt => by simp [kill_none, Hp.alloc_g, Nat.ne_of_lt hlt])))
          | with_reducible refine eok_and ?_ ?_
          | simp -implicitDefEqProofs [q1, h11, fr3, fr1, freshT])
    rintro f4 H4 ⟨h101, rfl⟩ fr4
    repeat (first
      | with_reducible refine draw_enter ?_
      | with_reducible exact rok_nil
      | ((with_reducible refine rok_cons ?_ ?_); (first | exact Or.inl (by decide +kernel) | exact Or.inr (by simp [h101, fr4, fr3, fr1, freshT]) | exact Or.inr (fun hlt => by simp [kill_none, Hp.alloc_g, Nat.ne_of_lt hlt])))
      | with_reducible refine rok_and ?_ ?_
      | ((with_reducible refine eok_cons ?_ ?_); (first | exact Or.inl (by decide +kernel) | exact Or.inr (by simp [h101, fr4, fr3, fr1, freshT]) | exact Or.inr (fun hlt => by simp [kill_none, Hp.alloc_g, Nat.ne_of_lt hlt])))
      | with_reducible refine eok_and ?_ ?_
      | simp -implicitDefEqProofs [h101, fr4, fr3, fr1, freshT])
    have c6 := w.o.c6
    refine run_for Tok hm (by kernel_rfl) [6, 14, 15, 16, 17, 18, 102, 103, 104, 105, 106, 107, 108, 109, 110, 111, 112, 113, 114, 115, 116, 117, 118, 119, 120, 121, 122, 123, 124, 125, 126, 127, 128, 129, 130, 131, 132, 133, 134, 135, 136, 137, 138, 139, 140, 141, 142, 143, 144, 145, 146, 147, 148, 149, 150, 151] (by kernel_rfl) H4.n s.chambers.length (fun c f5 h5 => f5 14 = I c) ?_ ?_ ?_
    · simp
    · rintro c f5 h5 hc h14 fr5 hu5
      have g5 : Grow h h5 := g3.trans hu5
      have hb5 : h5.g h.n = .row true 3 [cv, mv, I s.cake] := by rw [hu5.2 _ hn3]; exact hb3
      have hn5 : h.n < h5.n := by have := hu5.1; omega
      have hw := wrap_succ hc (by omega)
      repeat (first
        | with_reducible refine draw_enter ?_
        | with_reducible exact rok_nil
        | ((with_reducible refine rok_cons ?_ ?_); (first | exact Or.inl (by decide +kernel) | exact Or.inr (by simp [h14, fr5, fr4, fr3, fr1, freshT, hc, hb5, hn5, a.ch.len]) | exact Or.inr (fun hlt => by simp [kill_none, Hp.alloc_g, Nat.ne_of_lt hlt])))
        | with_reducible refine rok_and ?_ ?_
        | ((with_reducible refine eok_cons ?_ ?_); (first | exact Or.inl (by decide +kernel) | exact Or.inr (by simp [h14, fr5, fr4, fr3, fr1, freshT, hc, hb5, hn5, a.ch.len]) | exact Or.inr (fun hlt => by simp [kill_none, Hp.alloc_g, Nat.ne_of_lt hlt])))
        | with_reducible refine eok_and ?_ ?_
        | simp -implicitDefEqProofs [h14, fr5, fr4, fr3, fr1, freshT, hc, hb5, hn5, a.ch.len])
      refine run_for Tok hm (by kernel_rfl) [15, 16, 17, 18, 109, 110, 111, 112, 113, 114, 115, 116, 117, 118, 119, 120, 121, 122, 123, 124, 125, 126, 127, 128, 129, 130, 131, 132, 133, 134, 135, 136, 137, 138, 139, 140, 141, 142, 143, 144, 145, 146] (by kernel_rfl) h5.n l.length (fun k f6 h6 => f6 16 = I k ∧ f6 15 = I (cntAt s l c t k : Nat)) ?_ ?_ ?_
      · exact ⟨by simp, by simp [cntAt]⟩
      · rintro k f6 h6 hk ⟨h16, h15⟩ fr6 hu6
        refine inner7 (a.grow (g5.trans hu6)) (bl.grow (g5.trans hu6)) w hk (by rw [hu6.2 _ hn5]; exact hb5) (by have := hu6.1; omega) (by simp [fr6, fr5, fr4, fr3, fr1, freshT]) (by simp [fr6, fr5, fr4, fr3, fr1, freshT]) (by simp [fr6, fr5, fr4, fr3, fr1, freshT]) (by simp [fr6, h14]) h16 h15 (by kernel_rfl) fun f' k16 k15 => ?_
        simp only [fk_normal]
        exact ⟨Upto.refl, k16, k15⟩
      · rintro f6 h6 ⟨h16, h15⟩ fr6 hu6
        have hu7 : Upto H4.n h5 h6 := hu6.mono hu5.1
        have hone : F = true → ¬ 1 < cntAt s l c t l.length := fun hF2 => by have := cntAt_one (c := c) (t := t) (hF ▸ hF2) (Nat.le_refl l.length); omega
        cases F with
        | false =>
          repeat (first
            | with_reducible refine draw_enter ?_
            | with_reducible exact rok_nil
            | ((with_reducible refine rok_cons ?_ ?_); (first | exact Or.inl (by decide +kernel) | exact Or.inr (by simp [h16, h15, h14, fr6, fr5, fr4, fr3, fr1, freshT, bl.len, hw, hu7]) | exact Or.inr (fun hlt => by simp [kill_none, Hp.alloc_g, Nat.ne_of_lt hlt])))
            | with_reducible refine rok_and ?_ ?_
            | ((with_reducible refine eok_cons ?_ ?_); (first | exact Or.inl (by decide +kernel) | exact Or.inr (by simp [h16, h15, h14, fr6, fr5, fr4, fr3, fr1, freshT, bl.len, hw, hu7]) | exact Or.inr (fun hlt => by simp [kill_none, Hp.alloc_g, Nat.ne_of_lt hlt])))
            | with_reducible refine eok_and ?_ ?_
            | simp -implicitDefEqProofs [h16, h15, h14, fr6, fr5, fr4, fr3, fr1, freshT, bl.len, hw, hu7])
        | true =>
          have h1c := hone rfl
          repeat (first
            | with_reducible refine draw_enter ?_
            | with_reducible exact rok_nil
            | ((with_reducible refine rok_cons ?_ ?_); (first | exact Or.inl (by decide +kernel) | exact Or.inr (by simp [h16, h15, h14, fr6, fr5, fr4, fr3, fr1, freshT, bl.len, hw, hu7, h1c]) | exact Or.inr (fun hlt => by simp [kill_none, Hp.alloc_g, Nat.ne_of_lt hlt])))
            | with_reducible refine rok_and ?_ ?_
            | ((with_reducible refine eok_cons ?_ ?_); (first | exact Or.inl (by decide +kernel) | exact Or.inr (by simp [h16, h15, h14, fr6, fr5, fr4, fr3, fr1, freshT, bl.len, hw, hu7, h1c]) | exact Or.inr (fun hlt => by simp [kill_none, Hp.alloc_g, Nat.ne_of_lt hlt])))
            | with_reducible refine eok_and ?_ ?_
            | simp -implicitDefEqProofs [h16, h15, h14, fr6, fr5, fr4, fr3, fr1, freshT, bl.len, hw, hu7, h1c])
    · rintro f5 h5 h14 fr5 hu5
      have g5 : Grow h h5 := g3.trans hu5
      have hb5 : h5.g h.n = .row true 3 [cv, mv, I s.cake] := by rw [hu5.2 _ hn3]; exact hb3
      have hn5 : h.n < h5.n := by have := hu5.1; omega
      repeat (first
        | with_reducible refine call_step (works18 _) ?_
        | with_reducible refine draw_enter ?_
        | with_reducible refine q_call (works18 _) ROk.refl ?_
        | with_reducible exact rok_nil
        | ((with_reducible refine rok_cons ?_ ?_); (first | exact Or.inl (by decide +kernel) | exact Or.inr (by simp [h14, fr5, fr4, fr3, fr1, freshT, hb5, hn5, a.ch.len, g5]) | exact Or.inr (fun hlt => by simp [kill_none, Hp.alloc_g, Nat.ne_of_lt hlt])))
        | with_reducible refine rok_and ?_ ?_
        | ((with_reducible refine eok_cons ?_ ?_); (first | exact Or.inl (by decide +kernel) | exact Or.inr (by simp [h14, fr5, fr4, fr3, fr1, freshT, hb5, hn5, a.ch.len, g5]) | exact Or.inr (fun hlt => by simp [kill_none, Hp.alloc_g, Nat.ne_of_lt hlt])))
        | with_reducible refine eok_and ?_ ?_
        | simp -implicitDefEqProofs [h14, fr5, fr4, fr3, fr1, freshT, hb5, hn5, a.ch.len, g5])
end Go.Proofs
