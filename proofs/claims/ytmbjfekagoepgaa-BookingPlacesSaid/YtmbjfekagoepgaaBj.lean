/- Part of the proofs of the laws (see the last text of a claim): contracts of functions, and what they are shown with. -/
import Derived.Test.YtmbjfekagoepgaaBi
import Derived.Test.YtmbjfekagoepgaaFwCu
set_option linter.unusedSimpArgs false
set_option linter.unusedVariables false
open Go Go.Fw
namespace Go.Proofs
attribute [local irreducible] Run RunOps RunDraw pop condK guardK guardKD resK drawK RunD dK Fw.gK
set_option maxRecDepth 4000
def okRk (ms hs : List Int) (i : Nat) : Bool := within (gI ms i) 0 1440 && within (gI hs i) 0 100
def headRk (ms hs : List Int) (p : Int) : Bool := decide (hs.length = ms.length) && decide (ms.length ≤ 20) && within p 0 1440
def errRk (ms hs : List Int) (p : Int) : Int := if headRk ms hs p && (List.range ms.length).all (okRk ms hs) then 0 else 1
def scoreAt (ms hs : List Int) (p : Int) (i : Nat) : Int := gI ms i + p * gI hs i
def scores (ms hs : List Int) (p : Int) (k : Nat) : List Int := (List.range k).map (scoreAt ms hs p)
def lowTo (ms hs : List Int) (p n : Int) : Nat → Nat
  | 0 => 0
  | k + 1 => lowTo ms hs p n k + if scoreAt ms hs p k < n then 1 else 0
def rankAt (ms hs : List Int) (p : Int) (i : Nat) : Int := 1 + lowTo ms hs p (scoreAt ms hs p i) ms.length
def ranksL (ms hs : List Int) (p : Int) (k : Nat) : List Int := (List.range k).map (rankAt ms hs p)
def ranksOf (ms hs : List Int) (p : Int) : List Int := if errRk ms hs p = 0 then ranksL ms hs p ms.length else []
theorem scores_succ {ms hs : List Int} {p : Int} {k : Nat} : scores ms hs p (k + 1) = scores ms hs p k ++ [scoreAt ms hs p k] := by simp [scores, List.range_succ]
theorem ranksL_succ {ms hs : List Int} {p : Int} {k : Nat} : ranksL ms hs p (k + 1) = ranksL ms hs p k ++ [rankAt ms hs p k] := by simp [ranksL, List.range_succ]
theorem scores_len {ms hs : List Int} {p : Int} {k : Nat} : (scores ms hs p k).length = k := by simp [scores]
theorem ranksL_len {ms hs : List Int} {p : Int} {k : Nat} : (ranksL ms hs p k).length = k := by simp [ranksL]
theorem scores_get {ms hs : List Int} {p : Int} {k i : Nat} (h : i < k) : gI (scores ms hs p k) i = scoreAt ms hs p i := by simp [gI, scores, h]
theorem lowTo_le {ms hs : List Int} {p n : Int} : ∀ {k : Nat}, lowTo ms hs p n k ≤ k
  | 0 => Nat.le_refl _
  | k + 1 => by have := lowTo_le (ms := ms) (hs := hs) (p := p) (n := n) (k := k); simp only [lowTo]; split <;> omega
theorem errRk_head {ms hs : List Int} {p : Int} (h : headRk ms hs p = false) : errRk ms hs p = 1 := by simp [errRk, h]
theorem errRk_bad {ms hs : List Int} {p : Int} {i : Nat} (hi : i < ms.length) (h : okRk ms hs i = false) : errRk ms hs p = 1 := by
  have : (List.range ms.length).all (okRk ms hs) = false := by
    rw [List.all_eq_false]
    exact ⟨i, List.mem_range.2 hi, by simp [h]⟩
  simp [errRk, this]
theorem errRk_good {ms hs : List Int} {p : Int} (h : headRk ms hs p = true) (hall : ∀ i, i < ms.length → okRk ms hs i = true) : errRk ms hs p = 0 := by
  have : (List.range ms.length).all (okRk ms hs) = true := by
    rw [List.all_eq_true]
    exact fun i hi => hall i (List.mem_range.1 hi)
  simp [errRk, this, h]
theorem ok35 : codeOk Try.f35.ntmps (bodyOf Try.f35) = true := by kernel_rfl
theorem ranks35 {h : Hp} {v w : Value} {ms hs : List Int} (hm' : SlOk h v 1 ms.length (ms.map I)) (hh : SlOk h w 1 hs.length (hs.map I)) (p : Int) :
    ∃ x h', CallX Try.prog 35 #[v, w, I p] h x h' ∧ GivesInts h (errRk ms hs p) (ranksOf ms hs p) x h' := by
  refine run_any Tok hm Try.func35 (by kernel_rfl) (by kernel_rfl) ok35 (Nat.le_of_ble_eq_true rfl) ?_
  have nil : ∀ h', errRk ms hs p = 1 → Grow h h' → GivesInts h (errRk ms hs p) (ranksOf ms hs p) (.tuple #[.slice none 0 0, I 1]) h' := fun h' e g => by
    rw [e]
    exact GivesInts.nil g (by simp [ranksOf, e])
  by_cases d1 : hs.length = ms.length
  case neg =>
    have e := errRk_head (ms := ms) (hs := hs) (p := p) (by simp [headRk, d1])
    repeat (first
      | with_reducible refine draw_enter ?_
      | with_reducible exact rok_nil
      | ((with_reducible refine rok_cons ?_ ?_); (first | exact Or.inl (by decide +kernel) | exact Or.inr (by simp [bodyOf, Try.f35, hm'.len, hh.len, d1]) | exact Or.inr (fun hlt => by simp [kill_none, Hp.alloc_g, Nat.ne_of_lt hlt])))
      | with_reducible refine rok_and ?_ ?_
      | ((with_reducible refine eok_cons ?_ ?_); (first | exact Or.inl (by decide +kernel) | exact Or.inr (by simp [bodyOf, Try.f35, hm'.len, hh.len, d1]) | exact Or.inr (fun hlt => by simp [kill_none, Hp.alloc_g, Nat.ne_of_lt hlt])))
      | with_reducible refine eok_and ?_ ?_
      | simp -implicitDefEqProofs [bodyOf, Try.f35, hm'.len, hh.len, d1])
    exact nil h e Grow.refl
  by_cases d2 : 20 < ms.length
  · have e := errRk_head (ms := ms) (hs := hs) (p := p) (by simp [headRk]; omega)
    repeat (first
      | with_reducible refine draw_enter ?_
      | with_reducible exact rok_nil
      | ((with_reducible refine rok_cons ?_ ?_); (first | exact Or.inl (by decide +kernel) | exact Or.inr (by simp [bodyOf, Try.f35, hm'.len, hh.len, d1, d2]) | exact Or.inr (fun hlt => by simp [kill_none, Hp.alloc_g, Nat.ne_of_lt hlt])))
      | with_reducible refine rok_and ?_ ?_
      | ((with_reducible refine eok_cons ?_ ?_); (first | exact Or.inl (by decide +kernel) | exact Or.inr (by simp [bodyOf, Try.f35, hm'.len, hh.len, d1, d2]) | exact Or.inr (fun hlt => by simp [kill_none, Hp.alloc_g, Nat.ne_of_lt hlt])))
      | with_reducible refine eok_and ?_ ?_
      | simp -implicitDefEqProofs [bodyOf, Try.f35, hm'.len, hh.len, d1, d2])
    exact nil h e Grow.refl
  cases d3 : within p 0 1440 with
  | false =>
    have e := errRk_head (ms := ms) (hs := hs) (p := p) (by simp [headRk, d3])
    repeat (first
      | with_reducible refine call_step (within65 _ _ _ _) ?_
      | with_reducible refine draw_enter ?_
      | with_reducible refine q_call (within65 _ _ _ _) ROk.refl ?_
      | with_reducible exact rok_nil
      | ((with_reducible refine rok_cons ?_ ?_); (first | exact Or.inl (by decide +kernel) | exact Or.inr (by simp [bodyOf, Try.f35, hm'.len, hh.len, d1, d2, d3]) | exact Or.inr (fun hlt => by simp [kill_none, Hp.alloc_g, Nat.ne_of_lt hlt])))
      | with_reducible refine rok_and ?_ ?_
      | ((with_reducible refine eok_cons ?_ ?_); (first | exact Or.inl (by decide +kernel) | exact Or.inr (by simp [bodyOf, Try.f35, hm'.len, hh.len, d1, d2, d3]) | exact Or.inr (fun hlt => by simp [kill_none, Hp.alloc_g, Nat.ne_of_lt hlt])))
      | with_reducible refine eok_and ?_ ?_
      | simp -implicitDefEqProofs [bodyOf, Try.f35, hm'.len, hh.len, d1, d2, d3])
    exact nil h e Grow.refl
  | true =>
  have hhead : headRk ms hs p = true := by simp [headRk, d1, d3]; omega
  have hp := within_iff.1 d3
  repeat (first
    | with_reducible refine call_step (within65 _ _ _ _) ?_
    | with_reducible refine draw_enter ?_
    | with_reducible refine q_call (within65 _ _ _ _) ROk.refl ?_
    | with_reducible exact rok_nil
    | ((with_reducible refine rok_cons ?_ ?_); (first | exact Or.inl (by decide +kernel) | exact Or.inr (by simp [bodyOf, Try.f35, hm'.len, hh.len, d1, d2, d3]) | exact Or.inr (fun hlt => by simp [kill_none, Hp.alloc_g, Nat.ne_of_lt hlt])))
    | with_reducible refine rok_and ?_ ?_
    | ((with_reducible refine eok_cons ?_ ?_); (first | exact Or.inl (by decide +kernel) | exact Or.inr (by simp [bodyOf, Try.f35, hm'.len, hh.len, d1, d2, d3]) | exact Or.inr (fun hlt => by simp [kill_none, Hp.alloc_g, Nat.ne_of_lt hlt])))
    | with_reducible refine eok_and ?_ ?_
    | simp -implicitDefEqProofs [bodyOf, Try.f35, hm'.len, hh.len, d1, d2, d3])
  have hsb : ∀ i, okRk ms hs i = true → 0 ≤ scoreAt ms hs p i ∧ scoreAt ms hs p i ≤ 1440 + 1440 * 100 ∧ 0 ≤ p * gI hs i ∧ p * gI hs i ≤ 1440 * 100 := fun i ho => by
    simp only [okRk, Bool.and_eq_true, within_iff] at ho
    have h1 : p * gI hs i ≤ 1440 * 100 := Int.mul_le_mul hp.2 ho.2.2 ho.2.1 (by omega)
    have h2 : 0 ≤ p * gI hs i := Int.mul_nonneg hp.1 ho.2.1
    simp only [scoreAt]
    omega
  refine run_for Tok hm (by kernel_rfl) [6, 7, 8, 9, 10, 33, 34, 35, 36, 37, 38, 39, 40, 41, 42, 43, 44, 45, 46, 47, 48, 49, 50, 51, 52, 53, 54, 55, 56, 57, 58, 59, 60] (by kernel_rfl) h.n ms.length (fun i f h1 => f 33 = I i ∧ f 6 = .slice none 0 0 ∧ (∀ j, j < i → okRk ms hs j = true) ∧ Acc h.n h1 1 (f 8) i ((scores ms hs p i).map I)) ?_ ?_ ?_
  · exact ⟨by simp, by simp, fun j hj => absurd hj (by omega), by simpa [scores] using Acc.nil⟩
  · rintro i f h1 hi ⟨h33, h6, hall, hacc⟩ fr hu
    have hg : Grow h h1 := hu
    have m1 := hm'.grow hg
    have w1 := hh.grow hg
    have hih : i < hs.length := by omega
    have r1 := m1.ref (by omega)
    have r2 := w1.ref (by omega)
    have l1 := ld_int m1 hi
    have l2 := ld_int w1 hih
    have hw := wrap_succ hi (by omega)
    have hlen : i + 1 ≤ 1000000 := by omega
    have hn := hg.1
    cases q1 : within (gI ms i) 0 1440 with
    | false =>
      have e := errRk_bad (p := p) (hs := hs) hi (by simp [okRk, q1])
      repeat (first
        | with_reducible refine call_step (within65 _ _ _ _) ?_
        | with_reducible refine draw_enter ?_
        | with_reducible refine q_call (within65 _ _ _ _) ROk.refl ?_
        | with_reducible exact rok_nil
        | ((with_reducible refine rok_cons ?_ ?_); (first | exact Or.inl (by decide +kernel) | exact Or.inr (by simp [h33, fr, hi, r1, l1, q1]) | exact Or.inr (fun hlt => by simp [kill_none, Hp.alloc_g, Nat.ne_of_lt hlt])))
        | with_reducible refine rok_and ?_ ?_
        | ((with_reducible refine eok_cons ?_ ?_); (first | exact Or.inl (by decide +kernel) | exact Or.inr (by simp [h33, fr, hi, r1, l1, q1]) | exact Or.inr (fun hlt => by simp [kill_none, Hp.alloc_g, Nat.ne_of_lt hlt])))
        | with_reducible refine eok_and ?_ ?_
        | simp -implicitDefEqProofs [h33, fr, hi, r1, l1, q1])
      exact nil h1 e hg
    | true =>
    cases q2 : within (gI hs i) 0 100 with
    | false =>
      have e := errRk_bad (p := p) (hs := hs) hi (by simp [okRk, q2])
      repeat (first
        | with_reducible refine call_step (within65 _ _ _ _) ?_
        | with_reducible refine draw_enter ?_
        | with_reducible refine q_call (within65 _ _ _ _) ROk.refl ?_
        | with_reducible exact rok_nil
        | ((with_reducible refine rok_cons ?_ ?_); (first | exact Or.inl (by decide +kernel) | exact Or.inr (by simp [h33, h6, fr, hi, hih, r1, l1, r2, l2, q1, q2]) | exact Or.inr (fun hlt => by simp [kill_none, Hp.alloc_g, Nat.ne_of_lt hlt])))
        | with_reducible refine rok_and ?_ ?_
        | ((with_reducible refine eok_cons ?_ ?_); (first | exact Or.inl (by decide +kernel) | exact Or.inr (by simp [h33, h6, fr, hi, hih, r1, l1, r2, l2, q1, q2]) | exact Or.inr (fun hlt => by simp [kill_none, Hp.alloc_g, Nat.ne_of_lt hlt])))
        | with_reducible refine eok_and ?_ ?_
        | simp -implicitDefEqProofs [h33, h6, fr, hi, hih, r1, l1, r2, l2, q1, q2])
      exact nil h1 e hg
    | true =>
    have hok : okRk ms hs i = true := by simp [okRk, q1, q2]
    obtain ⟨b1, b2, b3, b4⟩ := hsb i hok
    have hw1 : IntKind.i64.wrap (p * gI hs i) = p * gI hs i := IntWalk.i64_in _ (by omega)
    have hw2 : IntKind.i64.wrap (gI ms i + p * gI hs i) = gI ms i + p * gI hs i := IntWalk.i64_in _ (by simp only [scoreAt] at b1 b2; omega)
    repeat (first
      | with_reducible refine call_step (within65 _ _ _ _) ?_
      | with_reducible refine draw_enter ?_
      | with_reducible refine q_call (within65 _ _ _ _) ROk.refl ?_
      | with_reducible exact rok_nil
      | ((with_reducible refine rok_cons ?_ ?_); (first | exact Or.inl (by decide +kernel) | exact Or.inr (by simp [h33, h6, fr, hi, hih, r1, l1, r2, l2, q1, q2, hw, hw1, hw2, hacc.app, hlen]) | exact Or.inr (fun hlt => by simp [kill_none, Hp.alloc_g, Nat.ne_of_lt hlt])))
      | with_reducible refine rok_and ?_ ?_
      | ((with_reducible refine eok_cons ?_ ?_); (first | exact Or.inl (by decide +kernel) | exact Or.inr (by simp [h33, h6, fr, hi, hih, r1, l1, r2, l2, q1, q2, hw, hw1, hw2, hacc.app, hlen]) | exact Or.inr (fun hlt => by simp [kill_none, Hp.alloc_g, Nat.ne_of_lt hlt])))
      | with_reducible refine eok_and ?_ ?_
      | simp -implicitDefEqProofs [h33, h6, fr, hi, hih, r1, l1, r2, l2, q1, q2, hw, hw1, hw2, hacc.app, hlen])
    rw [scores_succ, List.map_append]
    exact ⟨Upto.alloc (by simp; omega) (hacc.kill (Upto.alloc (by omega) Upto.refl)), all_succ hall hok, Acc.own (i := h1.n + 1) (by omega) (by simp) (by simp [scoreAt]) (by simp [scores_len])⟩
  · rintro f h1 ⟨h33, h6, hall, hacc⟩ fr hu
    have hg : Grow h h1 := hu
    have he := errRk_good hhead hall
    have sc := hacc.sl
    repeat (first
      | with_reducible refine draw_enter ?_
      | with_reducible exact rok_nil
      | ((with_reducible refine rok_cons ?_ ?_); (first | exact Or.inl (by decide +kernel) | exact Or.inr (by simp [h33, h6, fr, sc.len]) | exact Or.inr (fun hlt => by simp [kill_none, Hp.alloc_g, Nat.ne_of_lt hlt])))
      | with_reducible refine rok_and ?_ ?_
      | ((with_reducible refine eok_cons ?_ ?_); (first | exact Or.inl (by decide +kernel) | exact Or.inr (by simp [h33, h6, fr, sc.len]) | exact Or.inr (fun hlt => by simp [kill_none, Hp.alloc_g, Nat.ne_of_lt hlt])))
      | with_reducible refine eok_and ?_ ?_
      | simp -implicitDefEqProofs [h33, h6, fr, sc.len])
    refine run_for Tok hm (by kernel_rfl) [6, 12, 13, 15, 63, 64, 65, 66, 67, 68, 69, 70, 71, 72, 73, 74, 75, 76, 77, 78, 79, 80, 81, 82, 83] (by kernel_rfl) h1.n ms.length (fun i f3 h3 => f3 63 = I i ∧ Acc h1.n h3 1 (f3 6) i ((ranksL ms hs p i).map I)) ?_ ?_ ?_
    · exact ⟨by simp, by have : Acc h1.n h1 1 (.slice none 0 0) 0 [] := .nil; simpa [ranksL, fr, h6] using this⟩
    · rintro i f3 h3 hi ⟨h63, hac3⟩ fr3 hu3
      have g3 : Grow h1 h3 := hu3
      have s3 := sc.grow g3
      have r3 := s3.ref (by omega)
      have l3 := ld_int s3 (i := i) (by rw [scores_len]; exact hi)
      rw [scores_get hi] at l3
      have hw := wrap_succ hi (by omega)
      repeat (first
        | with_reducible refine draw_enter ?_
        | with_reducible exact rok_nil
        | ((with_reducible refine rok_cons ?_ ?_); (first | exact Or.inl (by decide +kernel) | exact Or.inr (by simp [h63, fr3, fr, sc.len, hi, r3, l3]) | exact Or.inr (fun hlt => by simp [kill_none, Hp.alloc_g, Nat.ne_of_lt hlt])))
        | with_reducible refine rok_and ?_ ?_
        | ((with_reducible refine eok_cons ?_ ?_); (first | exact Or.inl (by decide +kernel) | exact Or.inr (by simp [h63, fr3, fr, sc.len, hi, r3, l3]) | exact Or.inr (fun hlt => by simp [kill_none, Hp.alloc_g, Nat.ne_of_lt hlt])))
        | with_reducible refine eok_and ?_ ?_
        | simp -implicitDefEqProofs [h63, fr3, fr, sc.len, hi, r3, l3])
      refine run_for Tok hm (by kernel_rfl) [13, 15, 69, 70, 71, 72, 73, 74, 75, 76, 77, 78] (by kernel_rfl) h3.n ms.length (fun k f5 h5 => f5 69 = I k ∧ f5 13 = I (1 + (lowTo ms hs p (scoreAt ms hs p i) k : Int))) ?_ ?_ ?_
      · exact ⟨by simp, by simp [lowTo]⟩
      · rintro k f5 h5 hk ⟨h69, h13⟩ fr5 hu5
        have s5 := s3.grow hu5
        have r5 := s5.ref (by omega)
        have l5 := ld_int s5 (i := k) (by rw [scores_len]; exact hk)
        rw [scores_get hk] at l5
        have hwk := wrap_succ hk (by omega)
        have hlo := lowTo_le (ms := ms) (hs := hs) (p := p) (n := scoreAt ms hs p i) (k := k)
        have hwp : IntKind.i64.wrap (1 + (lowTo ms hs p (scoreAt ms hs p i) k : Int) + 1) = 1 + (lowTo ms hs p (scoreAt ms hs p i) k : Int) + 1 := IntWalk.i64_in _ (by omega)
        by_cases c : scoreAt ms hs p k < scoreAt ms hs p i
        · have hs' : lowTo ms hs p (scoreAt ms hs p i) (k + 1) = lowTo ms hs p (scoreAt ms hs p i) k + 1 := by simp [lowTo, c]
          repeat (first
            | with_reducible refine draw_enter ?_
            | with_reducible exact rok_nil
            | ((with_reducible refine rok_cons ?_ ?_); (first | exact Or.inl (by decide +kernel) | exact Or.inr (by simp [h69, h13, fr5, fr3, fr, sc.len, hk, r5, l5, c, hwk, hwp, hs']) | exact Or.inr (fun hlt => by simp [kill_none, Hp.alloc_g, Nat.ne_of_lt hlt])))
            | with_reducible refine rok_and ?_ ?_
            | ((with_reducible refine eok_cons ?_ ?_); (first | exact Or.inl (by decide +kernel) | exact Or.inr (by simp [h69, h13, fr5, fr3, fr, sc.len, hk, r5, l5, c, hwk, hwp, hs']) | exact Or.inr (fun hlt => by simp [kill_none, Hp.alloc_g, Nat.ne_of_lt hlt])))
            | with_reducible refine eok_and ?_ ?_
            | simp -implicitDefEqProofs [h69, h13, fr5, fr3, fr, sc.len, hk, r5, l5, c, hwk, hwp, hs'])
          omega
        · have hs' : lowTo ms hs p (scoreAt ms hs p i) (k + 1) = lowTo ms hs p (scoreAt ms hs p i) k := by simp [lowTo, c]
          repeat (first
            | with_reducible refine draw_enter ?_
            | with_reducible exact rok_nil
            | ((with_reducible refine rok_cons ?_ ?_); (first | exact Or.inl (by decide +kernel) | exact Or.inr (by simp [h69, h13, fr5, fr3, fr, sc.len, hk, r5, l5, c, hwk, hs']) | exact Or.inr (fun hlt => by simp [kill_none, Hp.alloc_g, Nat.ne_of_lt hlt])))
            | with_reducible refine rok_and ?_ ?_
            | ((with_reducible refine eok_cons ?_ ?_); (first | exact Or.inl (by decide +kernel) | exact Or.inr (by simp [h69, h13, fr5, fr3, fr, sc.len, hk, r5, l5, c, hwk, hs']) | exact Or.inr (fun hlt => by simp [kill_none, Hp.alloc_g, Nat.ne_of_lt hlt])))
            | with_reducible refine eok_and ?_ ?_
            | simp -implicitDefEqProofs [h69, h13, fr5, fr3, fr, sc.len, hk, r5, l5, c, hwk, hs'])
      · rintro f5 h5 ⟨h69, h13⟩ fr5 hu5
        have hra : rankAt ms hs p i = 1 + (lowTo ms hs p (scoreAt ms hs p i) ms.length : Int) := rfl
        have hle : i + 1 ≤ 1000000 := by omega
        have hac5 := hac3.grow hu5 (Nat.le_refl _)
        have hapx := hac3.app hu5 (ys := [I (rankAt ms hs p i)]) (xn := 1) (by omega) hle
        repeat (first
          | with_reducible refine draw_enter ?_
          | with_reducible exact rok_nil
          | ((with_reducible refine rok_cons ?_ ?_); (first | exact Or.inl (by decide +kernel) | exact Or.inr (by simp [h69, h13, fr5, fr3, fr, sc.len, ← hra, hac5.app, hle, h63, hw]) | exact Or.inr (fun hlt => by simp [kill_none, Hp.alloc_g, Nat.ne_of_lt hlt])))
          | with_reducible refine rok_and ?_ ?_
          | ((with_reducible refine eok_cons ?_ ?_); (first | exact Or.inl (by decide +kernel) | exact Or.inr (by simp [h69, h13, fr5, fr3, fr, sc.len, ← hra, hac5.app, hle, h63, hw]) | exact Or.inr (fun hlt => by simp [kill_none, Hp.alloc_g, Nat.ne_of_lt hlt])))
          | with_reducible refine eok_and ?_ ?_
          | simp -implicitDefEqProofs [h69, h13, fr5, fr3, fr, sc.len, ← hra, hac5.app, hle, h63, hw])
        have hn5 := hu5.1
        have hn3 := g3.1
        refine ⟨Upto.alloc (by simp; omega) (hac5.kill (Upto.alloc (by omega) (hu5.mono (by omega)))), Acc.own (i := h5.n + 1) (by omega) (by simp) ?_ (by simp [ranksL_len])⟩
        rw [ranksL_succ, List.map_append]
        simp
    · rintro f3 h3 ⟨h63, hac3⟩ fr3 hu3
      repeat (first
        | with_reducible refine draw_enter ?_
        | with_reducible exact rok_nil
        | ((with_reducible refine rok_cons ?_ ?_); (first | exact Or.inl (by decide +kernel) | exact Or.inr (by simp [h63, fr3, fr, sc.len]) | exact Or.inr (fun hlt => by simp [kill_none, Hp.alloc_g, Nat.ne_of_lt hlt])))
        | with_reducible refine rok_and ?_ ?_
        | ((with_reducible refine eok_cons ?_ ?_); (first | exact Or.inl (by decide +kernel) | exact Or.inr (by simp [h63, fr3, fr, sc.len]) | exact Or.inr (fun hlt => by simp [kill_none, Hp.alloc_g, Nat.ne_of_lt hlt])))
        | with_reducible refine eok_and ?_ ?_
        | simp -implicitDefEqProofs [h63, fr3, fr, sc.len])
      have hr : ranksOf ms hs p = ranksL ms hs p ms.length := by simp [ranksOf, he]
      rw [he]
      exact GivesInts.mk (m := h1.n) (hg.trans hu3) hr (by rw [ranksL_len]; exact hac3) hg.1
end Go.Proofs

set_option linter.unusedSimpArgs false
set_option linter.unusedVariables false
open Go Go.Fw
namespace Go.Proofs
attribute [local irreducible] Run RunOps RunDraw pop condK guardK guardKD resK drawK RunD dK Fw.gK
set_option maxRecDepth 4000
theorem score_small {ms hs : List Int} {p : Int} (hp : 0 ≤ p ∧ p ≤ 1440) {i : Nat} (ho : okRk ms hs i = true) : 0 ≤ scoreAt ms hs p i ∧ scoreAt ms hs p i ≤ 1440 + 1440 * 100 ∧ 0 ≤ p * gI hs i ∧ p * gI hs i ≤ 1440 * 100 := by
  simp only [okRk, Bool.and_eq_true, within_iff] at ho
  have h1 : p * gI hs i ≤ 1440 * 100 := Int.mul_le_mul hp.2 ho.2.2 ho.2.1 (by omega)
  have h2 : 0 ≤ p * gI hs i := Int.mul_nonneg hp.1 ho.2.1
  simp only [scoreAt]
  omega
theorem ok36 : codeOk Try.f36.ntmps (bodyOf Try.f36) = true := by kernel_rfl
theorem ranks36 {h : Hp} {v w : Value} {ms hs : List Int} (hm' : SlOk h v 1 ms.length (ms.map I)) (hh : SlOk h w 1 hs.length (hs.map I)) (p : Int) :
    ∃ x h', CallX Try.prog 36 #[v, w, I p] h x h' ∧ GivesInts h (errRk ms hs p) (ranksOf ms hs p) x h' := by
  refine run_any Tok hm Try.func36 (by kernel_rfl) (by kernel_rfl) ok36 (Nat.le_of_ble_eq_true rfl) ?_
  have nil : ∀ h', errRk ms hs p = 1 → Grow h h' → GivesInts h (errRk ms hs p) (ranksOf ms hs p) (.tuple #[.slice none 0 0, I 1]) h' := fun h' e g => by
    rw [e]
    exact GivesInts.nil g (by simp [ranksOf, e])
  by_cases d1 : hs.length = ms.length
  case neg =>
    have d1' : ¬ (ms.length : Int) = hs.length := by omega
    have d1'' : ¬ ms.length = hs.length := by omega
    have e := errRk_head (ms := ms) (hs := hs) (p := p) (by simp [headRk, d1])
    repeat (first
      | with_reducible refine draw_enter ?_
      | with_reducible exact rok_nil
      | ((with_reducible refine rok_cons ?_ ?_); (first | exact Or.inl (by decide +kernel) | exact Or.inr (by simp [bodyOf, Try.f36, hm'.len, hh.len, d1', d1'']) | exact Or.inr (fun hlt => by simp [kill_none, Hp.alloc_g, Nat.ne_of_lt hlt])))
      | with_reducible refine rok_and ?_ ?_
      | ((with_reducible refine eok_cons ?_ ?_); (first | exact Or.inl (by decide +kernel) | exact Or.inr (by simp [bodyOf, Try.f36, hm'.len, hh.len, d1', d1'']) | exact Or.inr (fun hlt => by simp [kill_none, Hp.alloc_g, Nat.ne_of_lt hlt])))
      | with_reducible refine eok_and ?_ ?_
      | simp -implicitDefEqProofs [bodyOf, Try.f36, hm'.len, hh.len, d1', d1''])
    exact nil h e Grow.refl
  have d1' : ms.length = hs.length := d1.symm
  by_cases d2 : 20 < ms.length
  · have e := errRk_head (ms := ms) (hs := hs) (p := p) (by simp [headRk]; omega)
    repeat (first
      | with_reducible refine draw_enter ?_
      | with_reducible exact rok_nil
      | ((with_reducible refine rok_cons ?_ ?_); (first | exact Or.inl (by decide +kernel) | exact Or.inr (by simp [bodyOf, Try.f36, hm'.len, hh.len, d1, d2]) | exact Or.inr (fun hlt => by simp [kill_none, Hp.alloc_g, Nat.ne_of_lt hlt])))
      | with_reducible refine rok_and ?_ ?_
      | ((with_reducible refine eok_cons ?_ ?_); (first | exact Or.inl (by decide +kernel) | exact Or.inr (by simp [bodyOf, Try.f36, hm'.len, hh.len, d1, d2]) | exact Or.inr (fun hlt => by simp [kill_none, Hp.alloc_g, Nat.ne_of_lt hlt])))
      | with_reducible refine eok_and ?_ ?_
      | simp -implicitDefEqProofs [bodyOf, Try.f36, hm'.len, hh.len, d1, d2])
    exact nil h e Grow.refl
  cases d3 : within p 0 1440 with
  | false =>
    have e := errRk_head (ms := ms) (hs := hs) (p := p) (by simp [headRk, d3])
    repeat (first
      | with_reducible refine call_step (within56 _ _ _ _) ?_
      | with_reducible refine draw_enter ?_
      | with_reducible refine q_call (within56 _ _ _ _) ROk.refl ?_
      | with_reducible exact rok_nil
      | ((with_reducible refine rok_cons ?_ ?_); (first | exact Or.inl (by decide +kernel) | exact Or.inr (by simp [bodyOf, Try.f36, hm'.len, hh.len, d1, d2, d3]) | exact Or.inr (fun hlt => by simp [kill_none, Hp.alloc_g, Nat.ne_of_lt hlt])))
      | with_reducible refine rok_and ?_ ?_
      | ((with_reducible refine eok_cons ?_ ?_); (first | exact Or.inl (by decide +kernel) | exact Or.inr (by simp [bodyOf, Try.f36, hm'.len, hh.len, d1, d2, d3]) | exact Or.inr (fun hlt => by simp [kill_none, Hp.alloc_g, Nat.ne_of_lt hlt])))
      | with_reducible refine eok_and ?_ ?_
      | simp -implicitDefEqProofs [bodyOf, Try.f36, hm'.len, hh.len, d1, d2, d3])
    exact nil h e Grow.refl
  | true =>
  have hhead : headRk ms hs p = true := by simp [headRk, d1, d3]; omega
  have hp := within_iff.1 d3
  repeat (first
    | with_reducible refine call_step (within56 _ _ _ _) ?_
    | with_reducible refine draw_enter ?_
    | with_reducible refine q_call (within56 _ _ _ _) ROk.refl ?_
    | with_reducible exact rok_nil
    | ((with_reducible refine rok_cons ?_ ?_); (first | exact Or.inl (by decide +kernel) | exact Or.inr (by simp [bodyOf, Try.f36, hm'.len, hh.len, d1, d2, d3]) | exact Or.inr (fun hlt => by simp [kill_none, Hp.alloc_g, Nat.ne_of_lt hlt])))
    | with_reducible refine rok_and ?_ ?_
    | ((with_reducible refine eok_cons ?_ ?_); (first | exact Or.inl (by decide +kernel) | exact Or.inr (by simp [bodyOf, Try.f36, hm'.len, hh.len, d1, d2, d3]) | exact Or.inr (fun hlt => by simp [kill_none, Hp.alloc_g, Nat.ne_of_lt hlt])))
    | with_reducible refine eok_and ?_ ?_
    | simp -implicitDefEqProofs [bodyOf, Try.f36, hm'.len, hh.len, d1, d2, d3])
  refine run_for Tok hm (by kernel_rfl) [6, 7, 8, 28, 29, 30, 31, 32, 33, 34, 35, 36, 37, 38, 39, 40, 41, 42, 43, 44, 45, 46, 47] (by kernel_rfl) h.n ms.length (fun i f h1 => f 8 = I i ∧ (∀ j, j < i → okRk ms hs j = true)) ?_ ?_ ?_
  · exact ⟨by simp, fun j hj => absurd hj (by omega)⟩
  · rintro i f h1 hi ⟨h8, hall⟩ fr hu
    have hg : Grow h h1 := hu
    have m1 := hm'.grow hg
    have w1 := hh.grow hg
    have hih : i < hs.length := by omega
    have r1 := m1.ref (by omega)
    have r2 := w1.ref (by omega)
    have l1 := ld_int m1 hi
    have l2 := ld_int w1 hih
    have hw := wrap_succ hi (by omega)
    cases q1 : within (gI ms i) 0 1440 with
    | false =>
      have e := errRk_bad (p := p) (hs := hs) hi (by simp [okRk, q1])
      repeat (first
        | with_reducible refine call_step (within56 _ _ _ _) ?_
        | with_reducible refine draw_enter ?_
        | with_reducible refine q_call (within56 _ _ _ _) ROk.refl ?_
        | with_reducible exact rok_nil
        | ((with_reducible refine rok_cons ?_ ?_); (first | exact Or.inl (by decide +kernel) | exact Or.inr (by simp [h8, fr, hi, hm'.len, r1, l1, q1]) | exact Or.inr (fun hlt => by simp [kill_none, Hp.alloc_g, Nat.ne_of_lt hlt])))
        | with_reducible refine rok_and ?_ ?_
        | ((with_reducible refine eok_cons ?_ ?_); (first | exact Or.inl (by decide +kernel) | exact Or.inr (by simp [h8, fr, hi, hm'.len, r1, l1, q1]) | exact Or.inr (fun hlt => by simp [kill_none, Hp.alloc_g, Nat.ne_of_lt hlt])))
        | with_reducible refine eok_and ?_ ?_
        | simp -implicitDefEqProofs [h8, fr, hi, hm'.len, r1, l1, q1])
      exact nil h1 e hg
    | true =>
    cases q2 : within (gI hs i) 0 100 with
    | false =>
      have e := errRk_bad (p := p) (hs := hs) hi (by simp [okRk, q2])
      repeat (first
        | with_reducible refine call_step (within56 _ _ _ _) ?_
        | with_reducible refine draw_enter ?_
        | with_reducible refine q_call (within56 _ _ _ _) ROk.refl ?_
        | with_reducible exact rok_nil
        | ((with_reducible refine rok_cons ?_ ?_); (first | exact Or.inl (by decide +kernel) | exact Or.inr (by simp [h8, fr, hi, hih, hm'.len, r1, l1, r2, l2, q1, q2]) | exact Or.inr (fun hlt => by simp [kill_none, Hp.alloc_g, Nat.ne_of_lt hlt])))
        | with_reducible refine rok_and ?_ ?_
        | ((with_reducible refine eok_cons ?_ ?_); (first | exact Or.inl (by decide +kernel) | exact Or.inr (by simp [h8, fr, hi, hih, hm'.len, r1, l1, r2, l2, q1, q2]) | exact Or.inr (fun hlt => by simp [kill_none, Hp.alloc_g, Nat.ne_of_lt hlt])))
        | with_reducible refine eok_and ?_ ?_
        | simp -implicitDefEqProofs [h8, fr, hi, hih, hm'.len, r1, l1, r2, l2, q1, q2])
      exact nil h1 e hg
    | true =>
    have hok : okRk ms hs i = true := by simp [okRk, q1, q2]
    repeat (first
      | with_reducible refine call_step (within56 _ _ _ _) ?_
      | with_reducible refine draw_enter ?_
      | with_reducible refine q_call (within56 _ _ _ _) ROk.refl ?_
      | with_reducible exact rok_nil
      | ((with_reducible refine rok_cons ?_ ?_); (first | exact Or.inl (by decide +kernel) | exact Or.inr (by simp [h8, fr, hi, hih, hm'.len, r1, l1, r2, l2, q1, q2, hw]) | exact Or.inr (fun hlt => by simp [kill_none, Hp.alloc_g, Nat.ne_of_lt hlt])))
      | with_reducible refine rok_and ?_ ?_
      | ((with_reducible refine eok_cons ?_ ?_); (first | exact Or.inl (by decide +kernel) | exact Or.inr (by simp [h8, fr, hi, hih, hm'.len, r1, l1, r2, l2, q1, q2, hw]) | exact Or.inr (fun hlt => by simp [kill_none, Hp.alloc_g, Nat.ne_of_lt hlt])))
      | with_reducible refine eok_and ?_ ?_
      | simp -implicitDefEqProofs [h8, fr, hi, hih, hm'.len, r1, l1, r2, l2, q1, q2, hw])
    exact all_succ hall hok
  · rintro f h1 ⟨h8, hall⟩ fr hu
    have hg : Grow h h1 := hu
    have he := errRk_good hhead hall
    repeat (first
      | with_reducible refine draw_enter ?_
      | with_reducible exact rok_nil
      | ((with_reducible refine rok_cons ?_ ?_); (first | exact Or.inl (by decide +kernel) | exact Or.inr (by simp [h8, fr, hm'.len]) | exact Or.inr (fun hlt => by simp [kill_none, Hp.alloc_g, Nat.ne_of_lt hlt])))
      | with_reducible refine rok_and ?_ ?_
      | ((with_reducible refine eok_cons ?_ ?_); (first | exact Or.inl (by decide +kernel) | exact Or.inr (by simp [h8, fr, hm'.len]) | exact Or.inr (fun hlt => by simp [kill_none, Hp.alloc_g, Nat.ne_of_lt hlt])))
      | with_reducible refine eok_and ?_ ?_
      | simp -implicitDefEqProofs [h8, fr, hm'.len])
    refine run_for Tok hm (by kernel_rfl) [9, 10, 11, 12, 48, 49, 50, 51, 52, 53, 54, 55, 56, 57, 58, 59, 60, 61, 62, 63, 64, 65, 66, 67, 68, 69, 70, 71, 72, 73, 74, 75, 76, 77, 78, 79, 80, 81, 82, 83, 84, 85, 86, 87, 88] (by kernel_rfl) h1.n ms.length (fun i f3 h3 => f3 10 = I i ∧ Acc h1.n h3 1 (f3 9) i ((ranksL ms hs p i).map I)) ?_ ?_ ?_
    · exact ⟨by simp, by have : Acc h1.n h1 1 (.slice none 0 0) 0 [] := .nil; simpa [ranksL] using this⟩
    · rintro i f3 h3 hi ⟨h10, hac3⟩ fr3 hu3
      have g3 : Grow h1 h3 := hu3
      have hw := wrap_succ hi (by omega)
      have hih : i < hs.length := by omega
      repeat (first
        | with_reducible refine draw_enter ?_
        | with_reducible exact rok_nil
        | ((with_reducible refine rok_cons ?_ ?_); (first | exact Or.inl (by decide +kernel) | exact Or.inr (by simp [h10, fr3, fr, hi, hm'.len]) | exact Or.inr (fun hlt => by simp [kill_none, Hp.alloc_g, Nat.ne_of_lt hlt])))
        | with_reducible refine rok_and ?_ ?_
        | ((with_reducible refine eok_cons ?_ ?_); (first | exact Or.inl (by decide +kernel) | exact Or.inr (by simp [h10, fr3, fr, hi, hm'.len]) | exact Or.inr (fun hlt => by simp [kill_none, Hp.alloc_g, Nat.ne_of_lt hlt])))
        | with_reducible refine eok_and ?_ ?_
        | simp -implicitDefEqProofs [h10, fr3, fr, hi, hm'.len])
      refine run_for Tok hm (by kernel_rfl) [11, 12, 54, 55, 56, 57, 58, 59, 60, 61, 62, 63, 64, 65, 66, 67, 68, 69, 70, 71, 72, 73, 74, 75, 76, 77, 78, 79, 80, 81, 82, 83, 84] (by kernel_rfl) h3.n ms.length (fun k f5 h5 => f5 12 = I k ∧ f5 11 = I (1 + (lowTo ms hs p (scoreAt ms hs p i) k : Int))) ?_ ?_ ?_
      · exact ⟨by simp, by simp [lowTo]⟩
      · rintro k f5 h5 hk ⟨h12, h11⟩ fr5 hu5
        have g5 : Grow h h5 := (hg.trans g3).trans hu5
        have m5 := hm'.grow g5
        have w5 := hh.grow g5
        have hkh : k < hs.length := by omega
        have r1 := m5.ref (by omega)
        have r2 := w5.ref (by omega)
        have lt1 := m5.lt (by omega)
        have lt2 := w5.lt (by omega)
        have l1 := ld_int m5 hi
        have l2 := ld_int w5 hih
        have l3 := ld_int m5 hk
        have l4 := ld_int w5 hkh
        have hwk := wrap_succ hk (by omega)
        obtain ⟨b1, b2, b3, b4⟩ := score_small hp (hall i hi)
        obtain ⟨c1, c2, c3, c4⟩ := score_small hp (hall k hk)
        have w1 : IntKind.i64.wrap (p * gI hs i) = p * gI hs i := IntWalk.i64_in _ (by omega)
        have w2 : IntKind.i64.wrap (gI ms i + p * gI hs i) = scoreAt ms hs p i := IntWalk.i64_in _ (by simp only [scoreAt] at b1 b2; omega)
        have w3 : IntKind.i64.wrap (p * gI hs k) = p * gI hs k := IntWalk.i64_in _ (by omega)
        have w4 : IntKind.i64.wrap (gI ms k + p * gI hs k) = scoreAt ms hs p k := IntWalk.i64_in _ (by simp only [scoreAt] at c1 c2; omega)
        have hlo := lowTo_le (ms := ms) (hs := hs) (p := p) (n := scoreAt ms hs p i) (k := k)
        have hwp : IntKind.i64.wrap (1 + (lowTo ms hs p (scoreAt ms hs p i) k : Int) + 1) = 1 + (lowTo ms hs p (scoreAt ms hs p i) k : Int) + 1 := IntWalk.i64_in _ (by omega)
        by_cases c : scoreAt ms hs p k < scoreAt ms hs p i
        · have hs' : lowTo ms hs p (scoreAt ms hs p i) (k + 1) = lowTo ms hs p (scoreAt ms hs p i) k + 1 := by simp [lowTo, c]
          repeat (first
            | with_reducible refine draw_enter ?_
            | with_reducible exact rok_nil
            | ((with_reducible refine rok_cons ?_ ?_); (first | exact Or.inl (by decide +kernel) | exact Or.inr (by simp [h12, h11, h10, fr5, fr3, fr, hm'.len, hk, hkh, hi, hih, r1, r2, lt1, lt2, l1, l2, l3, l4, w1, w2, w3, w4, c, hwk, hwp, hs']) | exact Or.inr (fun hlt => by simp [kill_none, Hp.alloc_g, Nat.ne_of_lt hlt])))
            | with_reducible refine rok_and ?_ ?_
            | ((with_reducible refine eok_cons ?_ ?_); (first | exact Or.inl (by decide +kernel) | exact Or.inr (by simp [h12, h11, h10, fr5, fr3, fr, hm'.len, hk, hkh, hi, hih, r1, r2, lt1, lt2, l1, l2, l3, l4, w1, w2, w3, w4, c, hwk, hwp, hs']) | exact Or.inr (fun hlt => by simp [kill_none, Hp.alloc_g, Nat.ne_of_lt hlt])))
            | with_reducible refine eok_and ?_ ?_
            | simp -implicitDefEqProofs [h12, h11, h10, fr5, fr3, fr, hm'.len, hk, hkh, hi, hih, r1, r2, lt1, lt2, l1, l2, l3, l4, w1, w2, w3, w4, c, hwk, hwp, hs'])
          omega
        · have hs' : lowTo ms hs p (scoreAt ms hs p i) (k + 1) = lowTo ms hs p (scoreAt ms hs p i) k := by simp [lowTo, c]
          repeat (first
            | with_reducible refine draw_enter ?_
            | with_reducible exact rok_nil
            | ((with_reducible refine rok_cons ?_ ?_); (first | exact Or.inl (by decide +kernel) | exact Or.inr (by simp [h12, h11, h10, fr5, fr3, fr, hm'.len, hk, hkh, hi, hih, r1, r2, lt1, lt2, l1, l2, l3, l4, w1, w2, w3, w4, c, hwk, hs']) | exact Or.inr (fun hlt => by simp [kill_none, Hp.alloc_g, Nat.ne_of_lt hlt])))
            | with_reducible refine rok_and ?_ ?_
            | ((with_reducible refine eok_cons ?_ ?_); (first | exact Or.inl (by decide +kernel) | exact Or.inr (by simp [h12, h11, h10, fr5, fr3, fr, hm'.len, hk, hkh, hi, hih, r1, r2, lt1, lt2, l1, l2, l3, l4, w1, w2, w3, w4, c, hwk, hs']) | exact Or.inr (fun hlt => by simp [kill_none, Hp.alloc_g, Nat.ne_of_lt hlt])))
            | with_reducible refine eok_and ?_ ?_
            | simp -implicitDefEqProofs [h12, h11, h10, fr5, fr3, fr, hm'.len, hk, hkh, hi, hih, r1, r2, lt1, lt2, l1, l2, l3, l4, w1, w2, w3, w4, c, hwk, hs'])
      · rintro f5 h5 ⟨h12, h11⟩ fr5 hu5
        have hra : rankAt ms hs p i = 1 + (lowTo ms hs p (scoreAt ms hs p i) ms.length : Int) := rfl
        have hle : i + 1 ≤ 1000000 := by omega
        have hac5 := hac3.grow hu5 (Nat.le_refl _)
        repeat (first
          | with_reducible refine draw_enter ?_
          | with_reducible exact rok_nil
          | ((with_reducible refine rok_cons ?_ ?_); (first | exact Or.inl (by decide +kernel) | exact Or.inr (by simp [h12, h11, fr5, fr3, fr, hm'.len, ← hra, hac5.app, hle, h10, hw]) | exact Or.inr (fun hlt => by simp [kill_none, Hp.alloc_g, Nat.ne_of_lt hlt])))
          | with_reducible refine rok_and ?_ ?_
          | ((with_reducible refine eok_cons ?_ ?_); (first | exact Or.inl (by decide +kernel) | exact Or.inr (by simp [h12, h11, fr5, fr3, fr, hm'.len, ← hra, hac5.app, hle, h10, hw]) | exact Or.inr (fun hlt => by simp [kill_none, Hp.alloc_g, Nat.ne_of_lt hlt])))
          | with_reducible refine eok_and ?_ ?_
          | simp -implicitDefEqProofs [h12, h11, fr5, fr3, fr, hm'.len, ← hra, hac5.app, hle, h10, hw])
        have hn5 := hu5.1
        have hn3 := g3.1
        refine ⟨Upto.alloc (by simp; omega) (hac5.kill (Upto.alloc (by omega) (hu5.mono (by omega)))), Acc.own (i := h5.n + 1) (by omega) (by simp) ?_ (by simp [ranksL_len])⟩
        rw [ranksL_succ, List.map_append]
        simp
    · rintro f3 h3 ⟨h10, hac3⟩ fr3 hu3
      repeat (first
        | with_reducible refine draw_enter ?_
        | with_reducible exact rok_nil
        | ((with_reducible refine rok_cons ?_ ?_); (first | exact Or.inl (by decide +kernel) | exact Or.inr (by simp [h10, fr3, fr, hm'.len]) | exact Or.inr (fun hlt => by simp [kill_none, Hp.alloc_g, Nat.ne_of_lt hlt])))
        | with_reducible refine rok_and ?_ ?_
        | ((with_reducible refine eok_cons ?_ ?_); (first | exact Or.inl (by decide +kernel) | exact Or.inr (by simp [h10, fr3, fr, hm'.len]) | exact Or.inr (fun hlt => by simp [kill_none, Hp.alloc_g, Nat.ne_of_lt hlt])))
        | with_reducible refine eok_and ?_ ?_
        | simp -implicitDefEqProofs [h10, fr3, fr, hm'.len])
      have hr : ranksOf ms hs p = ranksL ms hs p ms.length := by simp [ranksOf, he]
      rw [he]
      exact GivesInts.mk (m := h1.n) (hg.trans hu3) hr (by rw [ranksL_len]; exact hac3) hg.1
theorem ranksOf_len {ms hs : List Int} {p : Int} : (ranksOf ms hs p).length ≤ 1000000 := by
  unfold ranksOf
  split
  · rename_i e
    rw [ranksL_len]
    by_cases h : headRk ms hs p = true
    · simp [headRk] at h; omega
    · have := errRk_head (ms := ms) (hs := hs) (p := p) (by simpa using h); omega
  · simp
theorem ok9 : codeOk Try.f9.ntmps (bodyOf Try.f9) = true := by kernel_rfl
theorem ranks9 {h : Hp} {v w : Value} {ms hs : List Int} (hm' : SlOk h v 1 ms.length (ms.map I)) (hh : SlOk h w 1 hs.length (hs.map I)) (p : Int) : CallX Try.prog 9 #[v, w, I p] h (.bool true) h := by
  refine run_flat Tok hm Try.func9 (by kernel_rfl) (by kernel_rfl) ok9 (Nat.le_of_ble_eq_true rfl) ?_
  repeat (first
    | ((with_reducible refine call_step' (ranks35 hm' hh p) ?_); rintro v1 h1 ⟨sl1, rfl, g1, s1⟩)
    | with_reducible refine draw_enter ?_
    | with_reducible exact rok_nil
    | ((with_reducible refine rok_cons ?_ ?_); (first | exact Or.inl (by decide +kernel) | exact Or.inr (by simp [bodyOf, Try.f9]) | exact Or.inr (fun hlt => by simp [kill_none, Hp.alloc_g, Nat.ne_of_lt hlt])))
    | with_reducible refine rok_and ?_ ?_
    | ((with_reducible refine eok_cons ?_ ?_); (first | exact Or.inl (by decide +kernel) | exact Or.inr (by simp [bodyOf, Try.f9]) | exact Or.inr (fun hlt => by simp [kill_none, Hp.alloc_g, Nat.ne_of_lt hlt])))
    | with_reducible refine eok_and ?_ ?_
    | simp -implicitDefEqProofs [bodyOf, Try.f9])
  repeat (first
    | ((with_reducible refine call_step' (ranks36 (hm'.grow g1) (hh.grow g1) p) ?_); rintro v2 h2 ⟨sl2, rfl, g2, s2⟩)
    | with_reducible refine draw_enter ?_
    | with_reducible exact rok_nil
    | ((with_reducible refine rok_cons ?_ ?_); (first | exact Or.inl (by decide +kernel) | exact Or.inr (by simp []) | exact Or.inr (fun hlt => by simp [kill_none, Hp.alloc_g, Nat.ne_of_lt hlt])))
    | with_reducible refine rok_and ?_ ?_
    | ((with_reducible refine eok_cons ?_ ?_); (first | exact Or.inl (by decide +kernel) | exact Or.inr (by simp []) | exact Or.inr (fun hlt => by simp [kill_none, Hp.alloc_g, Nat.ne_of_lt hlt])))
    | with_reducible refine eok_and ?_ ?_
    | simp -implicitDefEqProofs [])
  have hg2 := g1.trans g2
  repeat (first
    | with_reducible refine call_step (sameInts32 (s1.sl.grow g2) s2.sl ranksOf_len) ?_
    | with_reducible refine call_step (works18 _) ?_
    | with_reducible refine draw_enter ?_
    | with_reducible refine q_call (sameInts32 (s1.sl.grow g2) s2.sl ranksOf_len) ROk.refl ?_
    | with_reducible refine q_call (works18 _) ROk.refl ?_
    | with_reducible exact rok_nil
    | ((with_reducible refine rok_cons ?_ ?_); (first | exact Or.inl (by decide +kernel) | exact Or.inr (by simp [hg2]) | exact Or.inr (fun hlt => by simp [kill_none, Hp.alloc_g, Nat.ne_of_lt hlt])))
    | with_reducible refine rok_and ?_ ?_
    | ((with_reducible refine eok_cons ?_ ?_); (first | exact Or.inl (by decide +kernel) | exact Or.inr (by simp [hg2]) | exact Or.inr (fun hlt => by simp [kill_none, Hp.alloc_g, Nat.ne_of_lt hlt])))
    | with_reducible refine eok_and ?_ ?_
    | simp -implicitDefEqProofs [hg2])
end Go.Proofs

set_option linter.unusedSimpArgs false
set_option linter.unusedVariables false
open Go Go.Fw
namespace Go.Proofs
attribute [local irreducible] Run RunOps RunDraw pop condK guardK guardKD resK drawK RunD dK Fw.gK
set_option maxRecDepth 4000
section
variable {ms hs : List Int} {p : Int}
theorem lowTo_mono {a b : Int} (h : a ≤ b) : ∀ {k : Nat}, lowTo ms hs p a k ≤ lowTo ms hs p b k
  | 0 => Nat.le_refl _
  | k + 1 => by
    have := lowTo_mono h (k := k)
    simp only [lowTo]
    split <;> split <;> omega
theorem lowTo_strict {a b : Int} (h : a < b) {i : Nat} (hi : scoreAt ms hs p i = a) : ∀ {k : Nat}, i < k → lowTo ms hs p a k < lowTo ms hs p b k
  | k + 1, hk => by
    simp only [lowTo]
    rcases Nat.lt_succ_iff_lt_or_eq.1 hk with h1 | rfl
    · have := lowTo_strict h hi h1
      split <;> split <;> omega
    · have := lowTo_mono (ms := ms) (hs := hs) (p := p) (Int.le_of_lt h) (k := i)
      rw [if_neg (by omega), if_pos (by omega)]
      omega
theorem rank_lt {i k : Nat} (hi : i < ms.length) (hk : k < ms.length) : rankAt ms hs p i < rankAt ms hs p k ↔ scoreAt ms hs p i < scoreAt ms hs p k := by
  unfold rankAt
  constructor
  · intro h
    by_cases c : scoreAt ms hs p i < scoreAt ms hs p k
    · exact c
    · have := lowTo_mono (ms := ms) (hs := hs) (p := p) (show scoreAt ms hs p k ≤ scoreAt ms hs p i by omega) (k := ms.length)
      omega
  · intro h
    have := lowTo_strict (ms := ms) (hs := hs) (p := p) h rfl hi
    omega
def lowerTo (ms hs : List Int) (p : Int) (i : Nat) : Nat → Nat
  | 0 => 0
  | k + 1 => lowerTo ms hs p i k + if rankAt ms hs p k < rankAt ms hs p i then 1 else 0
theorem lowerTo_le {i : Nat} : ∀ {k : Nat}, lowerTo ms hs p i k ≤ k
  | 0 => Nat.le_refl _
  | k + 1 => by have := lowerTo_le (i := i) (k := k); simp only [lowerTo]; split <;> omega
theorem lowerTo_eq {i : Nat} (hi : i < ms.length) : ∀ {k : Nat}, k ≤ ms.length → lowerTo ms hs p i k = lowTo ms hs p (scoreAt ms hs p i) k
  | 0, _ => rfl
  | k + 1, hk => by
    simp only [lowerTo, lowTo, lowerTo_eq hi (k := k) (by omega)]
    by_cases c : scoreAt ms hs p k < scoreAt ms hs p i
    · rw [if_pos c, if_pos ((rank_lt (by omega) hi).2 c)]
    · rw [if_neg c, if_neg (fun h => c ((rank_lt (by omega) hi).1 h))]
theorem least_score : ∀ {k : Nat}, 0 < k → ∃ i, i < k ∧ ∀ j, j < k → scoreAt ms hs p i ≤ scoreAt ms hs p j
  | 1, _ => ⟨0, by omega, fun j hj => by cases (by omega : j = 0); omega⟩
  | k + 2, _ => by
    obtain ⟨i, hi, h⟩ := least_score (k := k + 1) (by omega)
    by_cases c : scoreAt ms hs p (k + 1) < scoreAt ms hs p i
    · refine ⟨k + 1, by omega, fun j hj => ?_⟩
      rcases Nat.lt_succ_iff_lt_or_eq.1 hj with h1 | rfl
      · have := h j h1; omega
      · omega
    · refine ⟨i, by omega, fun j hj => ?_⟩
      rcases Nat.lt_succ_iff_lt_or_eq.1 hj with h1 | rfl
      · exact h j h1
      · omega
theorem lowTo_none {a : Int} : ∀ {k : Nat}, (∀ j, j < k → a ≤ scoreAt ms hs p j) → lowTo ms hs p a k = 0
  | 0, _ => rfl
  | k + 1, h => by
    simp only [lowTo, lowTo_none (k := k) (fun j hj => h j (by omega))]
    rw [if_neg (by have := h k (by omega); omega)]
theorem rank_one (h : 0 < ms.length) : ∃ i, i < ms.length ∧ rankAt ms hs p i = 1 := by
  obtain ⟨i, hi, hl⟩ := least_score (ms := ms) (hs := hs) (p := p) h
  exact ⟨i, hi, by rw [rankAt, lowTo_none hl]; rfl⟩
def firstTo (ms hs : List Int) (p : Int) (i : Nat) : Bool := decide (ms.length = 0) || (List.range i).any fun j => decide (rankAt ms hs p j = 1)
theorem firstTo_succ {i : Nat} : firstTo ms hs p (i + 1) = (firstTo ms hs p i || decide (rankAt ms hs p i = 1)) := by
  simp [firstTo, List.range_succ, Bool.or_assoc]
theorem firstTo_all : firstTo ms hs p ms.length = true := by
  rcases Nat.eq_zero_or_pos ms.length with h | h
  · simp [firstTo, h]
  · obtain ⟨i, hi, hr⟩ := rank_one (hs := hs) (p := p) h
    have : (List.range ms.length).any (fun j => decide (rankAt ms hs p j = 1)) = true := List.any_eq_true.2 ⟨i, List.mem_range.2 hi, decide_eq_true hr⟩
    simp only [firstTo, this, Bool.or_true]
def roomTo (ms : List Int) : Nat → Int
  | 0 => 1440
  | k + 1 => if 1440 - gI ms k < roomTo ms k then 1440 - gI ms k else roomTo ms k
theorem roomTo_le : ∀ {k : Nat}, roomTo ms k ≤ 1440 ∧ ∀ j, j < k → roomTo ms k ≤ 1440 - gI ms j
  | 0 => ⟨by simp [roomTo], fun j hj => by omega⟩
  | k + 1 => by
    obtain ⟨h1, h2⟩ := roomTo_le (k := k)
    refine ⟨by simp only [roomTo]; split <;> omega, fun j hj => ?_⟩
    simp only [roomTo]
    rcases Nat.lt_succ_iff_lt_or_eq.1 hj with h | rfl
    · have := h2 j h
      split <;> omega
    · split <;> omega
theorem roomTo_ge : ∀ {k : Nat}, (∀ j, j < k → gI ms j ≤ 1440) → 0 ≤ roomTo ms k
  | 0, _ => by simp [roomTo]
  | k + 1, h => by
    have := roomTo_ge (k := k) (fun j hj => h j (by omega))
    have := h k (by omega)
    simp only [roomTo]
    split <;> omega
def laterL (ms : List Int) (d : Int) (k : Nat) : List Int := (List.range k).map fun i => gI ms i + d
theorem laterL_succ {d : Int} {k : Nat} : laterL ms d (k + 1) = laterL ms d k ++ [gI ms k + d] := by simp [laterL, List.range_succ]
theorem laterL_len {d : Int} {k : Nat} : (laterL ms d k).length = k := by simp [laterL]
theorem laterL_at {d : Int} {k i : Nat} (h : i < k) : gI (laterL ms d k) i = gI ms i + d := by simp [gI, laterL, h]
theorem lowTo_later {d a : Int} {n : Nat} : ∀ {k : Nat}, k ≤ n → lowTo (laterL ms d n) hs p (a + d) k = lowTo ms hs p a k
  | 0, _ => rfl
  | k + 1, h => by
    have ih : lowTo (laterL ms d n) hs p (a + d) k = lowTo ms hs p a k := lowTo_later (by omega)
    have : scoreAt (laterL ms d n) hs p k = scoreAt ms hs p k + d := by simp only [scoreAt, laterL_at h]; exact Int.add_right_comm _ _ _
    simp only [lowTo, ih, this]
    by_cases c : scoreAt ms hs p k < a
    · rw [if_pos c, if_pos (by omega)]
    · rw [if_neg c, if_neg (by omega)]
theorem ranks_later {d : Int} : ranksL (laterL ms d ms.length) hs p ms.length = ranksL ms hs p ms.length := by
  refine List.map_congr_left fun i hi => ?_
  have hi := List.mem_range.1 hi
  have : scoreAt (laterL ms d ms.length) hs p i = scoreAt ms hs p i + d := by simp only [scoreAt, laterL_at hi]; exact Int.add_right_comm _ _ _
  simp only [rankAt, this, laterL_len]
  rw [lowTo_later (Nat.le_refl _)]
theorem err_later {d : Int} (e : errRk ms hs p = 0) (h0 : 0 ≤ d) (hd : ∀ j, j < ms.length → d ≤ 1440 - gI ms j) : errRk (laterL ms d ms.length) hs p = 0 := by
  have hh : headRk ms hs p = true := by
    cases q : headRk ms hs p with
    | true => rfl
    | false => rw [errRk_head q] at e; cases e
  refine errRk_good (by simpa [headRk, laterL_len] using hh) fun i hi => ?_
  rw [laterL_len] at hi
  have ho : okRk ms hs i = true := by
    cases q : okRk ms hs i with
    | true => rfl
    | false => rw [errRk_bad hi q] at e; cases e
  simp only [okRk, Bool.and_eq_true, within_iff] at ho ⊢
  have := hd i hi
  rw [laterL_at hi]
  omega
end
theorem errRk_cases {ms hs : List Int} {p : Int} (e : errRk ms hs p = 0) : hs.length = ms.length ∧ ms.length ≤ 20 ∧ (0 ≤ p ∧ p ≤ 1440) ∧ ∀ i, i < ms.length → okRk ms hs i = true := by
  have hh : headRk ms hs p = true := by
    cases q : headRk ms hs p with
    | true => rfl
    | false => rw [errRk_head q] at e; cases e
  have h2 := hh
  simp only [headRk, Bool.and_eq_true, decide_eq_true_eq, within_iff] at h2
  refine ⟨h2.1.1, h2.1.2, h2.2, fun i hi => ?_⟩
  cases q : okRk ms hs i with
  | true => rfl
  | false => rw [errRk_bad hi q] at e; cases e
theorem ranksL_at {ms hs : List Int} {p : Int} {k i : Nat} (h : i < k) : gI (ranksL ms hs p k) i = rankAt ms hs p i := by simp [gI, ranksL, h]
theorem inner10 {h5 : Hp} {v w sl1 : Value} {ms hs : List Int} {p : Int} (m5 : SlOk h5 v 1 ms.length (ms.map I)) (w5 : SlOk h5 w 1 hs.length (hs.map I)) (x5 : SlOk h5 sl1 1 ms.length ((ranksL ms hs p ms.length).map I)) (d1 : hs.length = ms.length) (l20 : ms.length ≤ 20)
    (hp : 0 ≤ p ∧ p ≤ 1440) (hok : ∀ i, i < ms.length → okRk ms hs i = true) {i k : Nat} (hiM : i < ms.length) (hk : k < ms.length) {f5 : Vars} (f7 : f5 7 = sl1) (f0 : f5 0 = v) (f1 : f5 1 = w) (f2 : f5 2 = I p) (f11 : f5 11 = I i) (h13 : f5 13 = I k) (h12 : f5 12 = I (lowerTo ms hs p i k : Nat))
    {C : Code} (hC : C = (loopsOf (bodyOf Try.f10)).getD 1 .skip) {K : Exit → Vars → Hp → Prop} (kk : ∀ f', f' 13 = I (k + 1 : Nat) → f' 12 = I (lowerTo ms hs p i (k + 1) : Nat) → K .normal f' h5) :
    Run Try.prog T 160 C (pop Try.prog T 160 K []) f5 h5 := by
  subst hC
  simp -implicitDefEqProofs [bodyOf, Try.f10, loopsOf]
  have hiH : i < hs.length := by omega
  have hkH : k < hs.length := by omega
  have s1' := m5.ref (by omega)
  have s2' := w5.ref (by omega)
  have s3' := x5.ref (by omega)
  have lt1 := m5.lt (by omega)
  have lt2 := w5.lt (by omega)
  have lt3 := x5.lt (by omega)
  have k1 := ld_int m5 hiM
  have k2 := ld_int w5 hiH
  have k3 := ld_int m5 hk
  have k4 := ld_int w5 hkH
  have k5 := ld_int x5 (i := i) (by rw [ranksL_len]; exact hiM)
  have k6 := ld_int x5 (i := k) (by rw [ranksL_len]; exact hk)
  rw [ranksL_at hiM] at k5
  rw [ranksL_at hk] at k6
  obtain ⟨b1, b2, b3, b4⟩ := score_small hp (hok i hiM)
  obtain ⟨c1, c2, c3, c4⟩ := score_small hp (hok k hk)
  have w1 : IntKind.i64.wrap (p * gI hs i) = p * gI hs i := IntWalk.i64_in _ (by omega)
  have w2 : IntKind.i64.wrap (gI ms i + p * gI hs i) = scoreAt ms hs p i := IntWalk.i64_in _ (by simp only [scoreAt] at b1 b2; omega)
  have w3 : IntKind.i64.wrap (p * gI hs k) = p * gI hs k := IntWalk.i64_in _ (by omega)
  have w4 : IntKind.i64.wrap (gI ms k + p * gI hs k) = scoreAt ms hs p k := IntWalk.i64_in _ (by simp only [scoreAt] at c1 c2; omega)
  have e1 : (rankAt ms hs p i < rankAt ms hs p k) = (scoreAt ms hs p i < scoreAt ms hs p k) := propext (rank_lt hiM hk)
  have e2 : (rankAt ms hs p k < rankAt ms hs p i) = (scoreAt ms hs p k < scoreAt ms hs p i) := propext (rank_lt hk hiM)
  have hwk := wrap_succ hk (by omega)
  have hlo := lowerTo_le (ms := ms) (hs := hs) (p := p) (i := i) (k := k)
  have hwl : IntKind.i64.wrap ((lowerTo ms hs p i k : Int) + 1) = (lowerTo ms hs p i k : Int) + 1 := IntWalk.i64_in _ (by omega)
  by_cases c : scoreAt ms hs p k < scoreAt ms hs p i
  · have hs' : lowerTo ms hs p i (k + 1) = lowerTo ms hs p i k + 1 := by simp only [lowerTo]; rw [if_pos (by rw [e2]; exact c)]
    repeat (first
      | with_reducible refine draw_enter ?_
      | with_reducible exact rok_nil
      | ((with_reducible refine rok_cons ?_ ?_); (first | exact Or.inl (by decide +kernel) | exact Or.inr (by simp [f7, f0, f1, f2, f11, h13, h12, x5.len, ranksL_len, hk, hkH, hiM, hiH, s1', s2', s3', lt1, lt2, lt3, k1, k2, k3, k4, k5, k6, w1, w2, w3, w4, e1, e2, c, hwk, hwl, hs']) | exact Or.inr (fun hlt => by simp [kill_none, Hp.alloc_g, Nat.ne_of_lt hlt])))
      | with_reducible refine rok_and ?_ ?_
      | ((with_reducible refine eok_cons ?_ ?_); (first | exact Or.inl (by decide +kernel) | exact Or.inr (by simp [f7, f0, f1, f2, f11, h13, h12, x5.len, ranksL_len, hk, hkH, hiM, hiH, s1', s2', s3', lt1, lt2, lt3, k1, k2, k3, k4, k5, k6, w1, w2, w3, w4, e1, e2, c, hwk, hwl, hs']) | exact Or.inr (fun hlt => by simp [kill_none, Hp.alloc_g, Nat.ne_of_lt hlt])))
      | with_reducible refine eok_and ?_ ?_
      | simp -implicitDefEqProofs [f7, f0, f1, f2, f11, h13, h12, x5.len, ranksL_len, hk, hkH, hiM, hiH, s1', s2', s3', lt1, lt2, lt3, k1, k2, k3, k4, k5, k6, w1, w2, w3, w4, e1, e2, c, hwk, hwl, hs'])
    exact kk _ (by simp [hwk]) (by simp [hwl, hs'])
  · have hs' : lowerTo ms hs p i (k + 1) = lowerTo ms hs p i k := by simp only [lowerTo]; rw [if_neg (by rw [e2]; exact c), Nat.add_zero]
    repeat (first
      | with_reducible refine draw_enter ?_
      | with_reducible exact rok_nil
      | ((with_reducible refine rok_cons ?_ ?_); (first | exact Or.inl (by decide +kernel) | exact Or.inr (by simp [f7, f0, f1, f2, f11, h13, h12, x5.len, ranksL_len, hk, hkH, hiM, hiH, s1', s2', s3', lt1, lt2, lt3, k1, k2, k3, k4, k5, k6, w1, w2, w3, w4, e1, e2, c, hwk, hs']) | exact Or.inr (fun hlt => by simp [kill_none, Hp.alloc_g, Nat.ne_of_lt hlt])))
      | with_reducible refine rok_and ?_ ?_
      | ((with_reducible refine eok_cons ?_ ?_); (first | exact Or.inl (by decide +kernel) | exact Or.inr (by simp [f7, f0, f1, f2, f11, h13, h12, x5.len, ranksL_len, hk, hkH, hiM, hiH, s1', s2', s3', lt1, lt2, lt3, k1, k2, k3, k4, k5, k6, w1, w2, w3, w4, e1, e2, c, hwk, hs']) | exact Or.inr (fun hlt => by simp [kill_none, Hp.alloc_g, Nat.ne_of_lt hlt])))
      | with_reducible refine eok_and ?_ ?_
      | simp -implicitDefEqProofs [f7, f0, f1, f2, f11, h13, h12, x5.len, ranksL_len, hk, hkH, hiM, hiH, s1', s2', s3', lt1, lt2, lt3, k1, k2, k3, k4, k5, k6, w1, w2, w3, w4, e1, e2, c, hwk, hs'])
    exact kk _ (by simp [hwk]) (by simp [hs', upd_some, h12])
theorem ok10 : codeOk Try.f10.ntmps (bodyOf Try.f10) = true := by kernel_rfl
theorem places10 {h : Hp} {v w : Value} {ms hs : List Int} (hm' : SlOk h v 1 ms.length (ms.map I)) (hh : SlOk h w 1 hs.length (hs.map I)) (p : Int) : CallX Try.prog 10 #[v, w, I p] h (.bool true) h := by
  refine run_flat Tok hm Try.func10 (by kernel_rfl) (by kernel_rfl) ok10 (Nat.le_of_ble_eq_true rfl) ?_
  repeat (first
    | ((with_reducible refine call_step' (ranks35 hm' hh p) ?_); rintro v1 h1 ⟨sl1, rfl, g1, s1⟩)
    | with_reducible refine draw_enter ?_
    | with_reducible exact rok_nil
    | ((with_reducible refine rok_cons ?_ ?_); (first | exact Or.inl (by decide +kernel) | exact Or.inr (by simp [bodyOf, Try.f10]) | exact Or.inr (fun hlt => by simp [kill_none, Hp.alloc_g, Nat.ne_of_lt hlt])))
    | with_reducible refine rok_and ?_ ?_
    | ((with_reducible refine eok_cons ?_ ?_); (first | exact Or.inl (by decide +kernel) | exact Or.inr (by simp [bodyOf, Try.f10]) | exact Or.inr (fun hlt => by simp [kill_none, Hp.alloc_g, Nat.ne_of_lt hlt])))
    | with_reducible refine eok_and ?_ ?_
    | simp -implicitDefEqProofs [bodyOf, Try.f10])
  by_cases e : errRk ms hs p = 0
  case neg =>
    repeat (first
      | with_reducible refine call_step (works18 _) ?_
      | with_reducible refine draw_enter ?_
      | with_reducible refine q_call (works18 _) ROk.refl ?_
      | with_reducible exact rok_nil
      | ((with_reducible refine rok_cons ?_ ?_); (first | exact Or.inl (by decide +kernel) | exact Or.inr (by simp [e, g1]) | exact Or.inr (fun hlt => by simp [kill_none, Hp.alloc_g, Nat.ne_of_lt hlt])))
      | with_reducible refine rok_and ?_ ?_
      | ((with_reducible refine eok_cons ?_ ?_); (first | exact Or.inl (by decide +kernel) | exact Or.inr (by simp [e, g1]) | exact Or.inr (fun hlt => by simp [kill_none, Hp.alloc_g, Nat.ne_of_lt hlt])))
      | with_reducible refine eok_and ?_ ?_
      | simp -implicitDefEqProofs [e, g1])
  obtain ⟨d1, l20, hp, hok⟩ := errRk_cases e
  have d1' : ms.length = hs.length := d1.symm
  have hr : ranksOf ms hs p = ranksL ms hs p ms.length := by simp [ranksOf, e]
  rw [hr, ranksL_len] at s1
  have x1 := s1.sl
  repeat (first
    | with_reducible refine draw_enter ?_
    | with_reducible exact rok_nil
    | ((with_reducible refine rok_cons ?_ ?_); (first | exact Or.inl (by decide +kernel) | exact Or.inr (by simp [e, x1.len, hm'.len, hh.len, d1]) | exact Or.inr (fun hlt => by simp [kill_none, Hp.alloc_g, Nat.ne_of_lt hlt])))
    | with_reducible refine rok_and ?_ ?_
    | ((with_reducible refine eok_cons ?_ ?_); (first | exact Or.inl (by decide +kernel) | exact Or.inr (by simp [e, x1.len, hm'.len, hh.len, d1]) | exact Or.inr (fun hlt => by simp [kill_none, Hp.alloc_g, Nat.ne_of_lt hlt])))
    | with_reducible refine eok_and ?_ ?_
    | simp -implicitDefEqProofs [e, x1.len, hm'.len, hh.len, d1])
  obtain ⟨n, hn⟩ : ∃ n, n = ms.length := ⟨_, rfl⟩
  refine run_for Tok hm (by kernel_rfl) [6, 9, 10, 11, 12, 13, 14, 15, 44, 45, 46, 47, 48, 49, 50, 51, 52, 53, 54, 55, 56, 57, 58, 59, 60, 61, 62, 63, 64, 65, 66, 67, 68, 69, 70, 71, 72, 73, 74, 75, 76, 77, 78, 79, 80, 81, 82, 83, 84, 85, 86, 87, 88, 89, 90, 91, 92, 93, 94, 95, 96, 97, 98, 99, 100, 101, 102, 103, 104, 105, 106, 107, 108, 109, 110, 111, 112, 113, 114, 115, 116, 117, 118, 119, 120, 121, 122, 123] (by kernel_rfl) h1.n n (fun i f h3 => f 11 = I i ∧ f 9 = .bool (firstTo ms hs p i) ∧ f 10 = I (roomTo ms i)) ?_ ?_ ?_
  · exact ⟨by simp, by simp [firstTo, hn], by simp [roomTo]⟩
  · rintro i f h3 hi ⟨h11, h9, h10⟩ fr hu
    have g3 : Grow h h3 := g1.trans hu
    have m3 := hm'.grow g3
    have w3 := hh.grow g3
    have x3 := x1.grow hu
    have hiM : i < ms.length := by omega
    have hiH : i < hs.length := by omega
    have r1 := m3.ref (by omega)
    have r2 := w3.ref (by omega)
    have r3 := x3.ref (by omega)
    have l1 := ld_int m3 hiM
    have l3 := ld_int x3 (i := i) (by rw [ranksL_len]; exact hiM)
    rw [ranksL_at hiM] at l3
    have hw := wrap_succ hi (by omega)
    have ho := hok i hiM
    have ho' := ho
    simp only [okRk, Bool.and_eq_true, within_iff] at ho'
    have hw2 : IntKind.i64.wrap (1440 - gI ms i) = 1440 - gI ms i := IntWalk.i64_in _ (by omega)
    have hf := firstTo_succ (ms := ms) (hs := hs) (p := p) (i := i)
    rw [hn] at hi
    repeat (first
      | with_reducible exact rok_nil
      | ((with_reducible refine rok_cons ?_ ?_); (first | exact Or.inl (by decide +kernel) | exact Or.inr (by simp [h11, fr, x1.len, hi, hiM]) | exact Or.inr (fun hlt => by simp [kill_none, Hp.alloc_g, Nat.ne_of_lt hlt])))
      | with_reducible refine rok_and ?_ ?_
      | ((with_reducible refine eok_cons ?_ ?_); (first | exact Or.inl (by decide +kernel) | exact Or.inr (by simp [h11, fr, x1.len, hi, hiM]) | exact Or.inr (fun hlt => by simp [kill_none, Hp.alloc_g, Nat.ne_of_lt hlt])))
      | with_reducible refine eok_and ?_ ?_
      | simp -implicitDefEqProofs [h11, fr, x1.len, hi, hiM])
    with_reducible refine guard_cut (fun f' H' => f' 9 = .bool (firstTo ms hs p (i + 1)) ∧ H' = h3) ?_ ?_
    · cases q : firstTo ms hs p i <;> rw [q] at hf h9 <;> by_cases q2 : rankAt ms hs p i = 1
      all_goals
        repeat (first
          | with_reducible refine draw_enter ?_
          | with_reducible exact rok_nil
          | ((with_reducible refine rok_cons ?_ ?_); (first | exact Or.inl (by decide +kernel) | exact Or.inr (by simp [h9, h11, fr, hi, hiM, r3, l3, q2, hf]) | exact Or.inr (fun hlt => by simp [kill_none, Hp.alloc_g, Nat.ne_of_lt hlt])))
          | with_reducible refine rok_and ?_ ?_
          | ((with_reducible refine eok_cons ?_ ?_); (first | exact Or.inl (by decide +kernel) | exact Or.inr (by simp [h9, h11, fr, hi, hiM, r3, l3, q2, hf]) | exact Or.inr (fun hlt => by simp [kill_none, Hp.alloc_g, Nat.ne_of_lt hlt])))
          | with_reducible refine eok_and ?_ ?_
          | simp -implicitDefEqProofs [h9, h11, fr, hi, hiM, r3, l3, q2, hf])
    rintro f4 H4 ⟨k9, rfl⟩ fr4
    repeat (first
      | with_reducible refine draw_enter ?_
      | with_reducible exact rok_nil
      | ((with_reducible refine rok_cons ?_ ?_); (first | exact Or.inl (by decide +kernel) | exact Or.inr (by simp [k9, fr4, freshT, h11, h10, fr, hi, hiM, r1, l1, hw2]) | exact Or.inr (fun hlt => by simp [kill_none, Hp.alloc_g, Nat.ne_of_lt hlt])))
      | with_reducible refine rok_and ?_ ?_
      | ((with_reducible refine eok_cons ?_ ?_); (first | exact Or.inl (by decide +kernel) | exact Or.inr (by simp [k9, fr4, freshT, h11, h10, fr, hi, hiM, r1, l1, hw2]) | exact Or.inr (fun hlt => by simp [kill_none, Hp.alloc_g, Nat.ne_of_lt hlt])))
      | with_reducible refine eok_and ?_ ?_
      | simp -implicitDefEqProofs [k9, fr4, freshT, h11, h10, fr, hi, hiM, r1, l1, hw2])
    refine run_for Tok hm (by kernel_rfl) [6, 12, 13, 14, 15, 65, 66, 67, 68, 69, 70, 71, 72, 73, 74, 75, 76, 77, 78, 79, 80, 81, 82, 83, 84, 85, 86, 87, 88, 89, 90, 91, 92, 93, 94, 95, 96, 97, 98, 99, 100, 101, 102, 103, 104, 105, 106, 107, 108, 109, 110, 111, 112, 113, 114, 115, 116] (by kernel_rfl) H4.n ms.length (fun k f5 h5 => f5 13 = I k ∧ f5 12 = I (lowerTo ms hs p i k : Nat)) ?_ ?_ ?_
    · exact ⟨by simp, by simp [lowerTo]⟩
    · rintro k f5 h5 hk ⟨h13, h12⟩ fr5 hu5
      refine inner10 (hm'.grow (g3.trans hu5)) (hh.grow (g3.trans hu5)) (x3.grow hu5) d1 l20 hp hok hiM hk (by simp [fr5, fr4, freshT, fr]) (by simp [fr5, fr4, freshT, fr]) (by simp [fr5, fr4, freshT, fr]) (by simp [fr5, fr4, freshT, fr]) (by simp [fr5, fr4, freshT, fr, h11]) h13 h12 (by kernel_rfl) fun f' k13 k12 => ?_
      simp only [fk_normal]
      exact ⟨Upto.refl, k13, k12⟩
    · rintro f5 h5 ⟨h13, h12⟩ fr5 hu5
      have x5 := x3.grow hu5
      have r5 := x5.ref (by omega)
      have l5 := ld_int x5 (i := i) (by rw [ranksL_len]; exact hiM)
      rw [ranksL_at hiM] at l5
      have hlo := lowerTo_le (ms := ms) (hs := hs) (p := p) (i := i) (k := ms.length)
      have heq : rankAt ms hs p i - 1 = (lowerTo ms hs p i ms.length : Int) := by rw [lowerTo_eq hiM (Nat.le_refl _)]; simp only [rankAt]; omega
      have hwr : IntKind.i64.wrap (rankAt ms hs p i - 1) = (lowerTo ms hs p i ms.length : Int) := by rw [heq]; exact IntWalk.i64_in _ (by omega)
      have hroom : roomTo ms (i + 1) = if 1440 - gI ms i < roomTo ms i then 1440 - gI ms i else roomTo ms i := rfl
      have hu6 : Upto h1.n H4 h5 := hu5.mono hu.1
      repeat (first
        | with_reducible refine draw_enter ?_
        | with_reducible exact rok_nil
        | ((with_reducible refine rok_cons ?_ ?_); (first | exact Or.inl (by decide +kernel) | exact Or.inr (by simp [h13, h12, fr5, fr4, freshT, fr, x1.len, h11, hiM, r5, l5, hwr, k9, hw, hroom, hu6]) | exact Or.inr (fun hlt => by simp [kill_none, Hp.alloc_g, Nat.ne_of_lt hlt])))
        | with_reducible refine rok_and ?_ ?_
        | ((with_reducible refine eok_cons ?_ ?_); (first | exact Or.inl (by decide +kernel) | exact Or.inr (by simp [h13, h12, fr5, fr4, freshT, fr, x1.len, h11, hiM, r5, l5, hwr, k9, hw, hroom, hu6]) | exact Or.inr (fun hlt => by simp [kill_none, Hp.alloc_g, Nat.ne_of_lt hlt])))
        | with_reducible refine eok_and ?_ ?_
        | simp -implicitDefEqProofs [h13, h12, fr5, fr4, freshT, fr, x1.len, h11, hiM, r5, l5, hwr, k9, hw, hroom, hu6])
  · rintro f h3 ⟨h11, h9, h10⟩ fr hu
    rw [hn] at h11 h9 h10
    rw [firstTo_all] at h9
    have g3 : Grow h h3 := g1.trans hu
    obtain ⟨d, hd⟩ : ∃ d : Int, d = if 7 < roomTo ms ms.length then 7 else roomTo ms ms.length := ⟨_, rfl⟩
    obtain ⟨o1, o2⟩ := roomTo_le (ms := ms) (k := ms.length)
    have o3 : 0 ≤ roomTo ms ms.length := roomTo_ge (fun j hj => by have := hok j hj; simp only [okRk, Bool.and_eq_true, within_iff] at this; omega)
    have hd0 : 0 ≤ d := by rw [hd]; split <;> omega
    have hd1 : d ≤ roomTo ms ms.length := by rw [hd]; split <;> omega
    repeat (first
      | with_reducible refine draw_enter ?_
      | with_reducible exact rok_nil
      | ((with_reducible refine rok_cons ?_ ?_); (first | exact Or.inl (by decide +kernel) | exact Or.inr (by simp [h11, fr, x1.len, hn]) | exact Or.inr (fun hlt => by simp [kill_none, Hp.alloc_g, Nat.ne_of_lt hlt])))
      | with_reducible refine rok_and ?_ ?_
      | ((with_reducible refine eok_cons ?_ ?_); (first | exact Or.inl (by decide +kernel) | exact Or.inr (by simp [h11, fr, x1.len, hn]) | exact Or.inr (fun hlt => by simp [kill_none, Hp.alloc_g, Nat.ne_of_lt hlt])))
      | with_reducible refine eok_and ?_ ?_
      | simp -implicitDefEqProofs [h11, fr, x1.len, hn])
    refine run_for Tok hm (by kernel_rfl) [16, 17, 124, 125, 126, 127, 128, 129, 130, 131, 132, 133, 134, 135, 136, 137, 138, 139] (by kernel_rfl) h3.n ms.length (fun i f5 h5 => f5 17 = I i ∧ Acc h3.n h5 1 (f5 16) i ((laterL ms d i).map I)) ?_ ?_ ?_
    · exact ⟨by simp, by have : Acc h3.n h3 1 (.slice none 0 0) 0 [] := .nil; simpa [laterL] using this⟩
    · rintro i f5 h5 hi ⟨h17, hacc⟩ fr5 hu5
      have g5 : Grow h h5 := g3.trans hu5
      have m5 := hm'.grow g5
      have r1 := m5.ref (by omega)
      have l1 := ld_int m5 hi
      have hw := wrap_succ hi (by omega)
      have hle : i + 1 ≤ 1000000 := by omega
      have ho := hok i hi
      simp only [okRk, Bool.and_eq_true, within_iff] at ho
      have := o2 i hi
      have hwd : IntKind.i64.wrap (gI ms i + d) = gI ms i + d := IntWalk.i64_in _ (by omega)
      repeat (first
        | with_reducible refine draw_enter ?_
        | with_reducible exact rok_nil
        | ((with_reducible refine rok_cons ?_ ?_); (first | exact Or.inl (by decide +kernel) | exact Or.inr (by simp [h17, fr5, fr, hm'.len, hi, r1, l1, h10, ← hd, hwd, hacc.app, hle, hw]) | exact Or.inr (fun hlt => by simp [kill_none, Hp.alloc_g, Nat.ne_of_lt hlt])))
        | with_reducible refine rok_and ?_ ?_
        | ((with_reducible refine eok_cons ?_ ?_); (first | exact Or.inl (by decide +kernel) | exact Or.inr (by simp [h17, fr5, fr, hm'.len, hi, r1, l1, h10, ← hd, hwd, hacc.app, hle, hw]) | exact Or.inr (fun hlt => by simp [kill_none, Hp.alloc_g, Nat.ne_of_lt hlt])))
        | with_reducible refine eok_and ?_ ?_
        | simp -implicitDefEqProofs [h17, fr5, fr, hm'.len, hi, r1, l1, h10, ← hd, hwd, hacc.app, hle, hw])
      have hn5 := hu5.1
      refine ⟨Upto.alloc (by simp; omega) (hacc.kill (Upto.alloc (by omega) Upto.refl)), Acc.own (i := h5.n + 1) (by omega) (by simp) ?_ (by simp [laterL_len])⟩
      rw [laterL_succ, List.map_append]
      simp
    · rintro f5 h5 ⟨h17, hacc⟩ fr5 hu5
      have g5 : Grow h h5 := g3.trans hu5
      have e2 := err_later e hd0 (fun j hj => by have := o2 j hj; omega)
      have hrk := ranks35 (h := h5) (v := f5 16) (ms := laterL ms d ms.length) (by rw [laterL_len]; exact hacc.sl) (hh.grow g5) p
      have hr2 : ranksOf (laterL ms d ms.length) hs p = ranksL ms hs p ms.length := by simp only [ranksOf, e2, if_true, laterL_len, ranks_later]
      rw [e2, hr2] at hrk
      repeat (first
        | ((with_reducible refine call_step' (hrk) ?_); rintro v6 h6 ⟨sl2, rfl, g6, s2⟩)
        | with_reducible refine draw_enter ?_
        | with_reducible exact rok_nil
        | ((with_reducible refine rok_cons ?_ ?_); (first | exact Or.inl (by decide +kernel) | exact Or.inr (by simp [h17, fr5, fr, hm'.len]) | exact Or.inr (fun hlt => by simp [kill_none, Hp.alloc_g, Nat.ne_of_lt hlt])))
        | with_reducible refine rok_and ?_ ?_
        | ((with_reducible refine eok_cons ?_ ?_); (first | exact Or.inl (by decide +kernel) | exact Or.inr (by simp [h17, fr5, fr, hm'.len]) | exact Or.inr (fun hlt => by simp [kill_none, Hp.alloc_g, Nat.ne_of_lt hlt])))
        | with_reducible refine eok_and ?_ ?_
        | simp -implicitDefEqProofs [h17, fr5, fr, hm'.len])
      have g7 : Grow h h6 := g5.trans g6
      have x6 := x1.grow ((show Grow h1 h3 from hu).trans ((show Grow h3 h5 from hu5).trans g6))
      have hs6 := sameInts32 (xs := ranksL ms hs p ms.length) (by rw [ranksL_len]; exact x6) s2.sl (by rw [ranksL_len]; omega)
      simp only [decide_true] at hs6
      repeat (first
        | with_reducible refine call_step (hs6) ?_
        | with_reducible refine call_step (works18 _) ?_
        | with_reducible refine draw_enter ?_
        | with_reducible refine q_call (hs6) ROk.refl ?_
        | with_reducible refine q_call (works18 _) ROk.refl ?_
        | with_reducible exact rok_nil
        | ((with_reducible refine rok_cons ?_ ?_); (first | exact Or.inl (by decide +kernel) | exact Or.inr (by simp [fr5, fr, h9, g7]) | exact Or.inr (fun hlt => by simp [kill_none, Hp.alloc_g, Nat.ne_of_lt hlt])))
        | with_reducible refine rok_and ?_ ?_
        | ((with_reducible refine eok_cons ?_ ?_); (first | exact Or.inl (by decide +kernel) | exact Or.inr (by simp [fr5, fr, h9, g7]) | exact Or.inr (fun hlt => by simp [kill_none, Hp.alloc_g, Nat.ne_of_lt hlt])))
        | with_reducible refine eok_and ?_ ?_
        | simp -implicitDefEqProofs [fr5, fr, h9, g7])
end Go.Proofs
