/- Part of the proofs of the laws (see the last text of a claim): contracts of functions, and what they are shown with. -/
import Derived.Test.YtmbjfekagoepgaaDkJ
set_option linter.unusedSimpArgs false
set_option linter.unusedVariables false
open Go Go.Fw
namespace Go.Proofs
attribute [local irreducible] Run RunOps RunDraw pop condK guardK guardKD resK drawK RunD dK Fw.gK
set_option maxRecDepth 4000
def badR (n : Nat) (c : List Int) (i : Nat) : Bool := decide (gI c i < 0) || (decide ((n : Int) ≤ gI c i) || (decide (0 < i) && decide (gI c i ≤ gI c (i - 1))))
def risTo (n : Nat) (c : List Int) (i : Nat) : Bool := (List.range i).all fun j => !badR n c j
def risB (n : Nat) (c : List Int) : Bool := risTo n c c.length
theorem risTo_succ {n : Nat} {c : List Int} {i : Nat} : risTo n c (i + 1) = (risTo n c i && !badR n c i) := by simp [risTo, List.range_succ]
theorem risTo_false {n : Nat} {c : List Int} {i j : Nat} (h : risTo n c i = false) (hj : i ≤ j) : risTo n c j = false := by
  induction j with
  | zero => rw [show i = 0 by omega] at h; exact h
  | succ j ih =>
    rcases Nat.eq_or_lt_of_le hj with e | e
    · rw [← e]; exact h
    · rw [risTo_succ, ih (by omega)]; rfl
theorem badR_iff {n : Nat} {c : List Int} {i : Nat} : badR n c i = false ↔ 0 ≤ gI c i ∧ gI c i < n ∧ (0 < i → gI c (i - 1) < gI c i) := by
  simp only [badR, Bool.or_eq_false_iff, Bool.and_eq_false_iff, decide_eq_false_iff_not]
  omega
theorem risTo_at {n : Nat} {c : List Int} : ∀ {i : Nat}, risTo n c i = true → ∀ j, j < i → (j : Int) ≤ gI c j ∧ gI c j < n ∧ ∀ k, k < j → gI c k < gI c j
  | i + 1, h, j, hj => by
    rw [risTo_succ, Bool.and_eq_true, Bool.not_eq_true', badR_iff] at h
    obtain ⟨h0, h1, h2, h3⟩ := h
    rcases Nat.lt_succ_iff_lt_or_eq.1 hj with e | rfl
    · exact risTo_at h0 j e
    · cases j with
      | zero => exact ⟨by omega, h2, fun k hk => absurd hk (by omega)⟩
      | succ j =>
        obtain ⟨k1, k2, k3⟩ := risTo_at h0 j (by omega)
        have h4 := h3 (by omega)
        rw [Nat.add_sub_cancel] at h4
        refine ⟨by omega, h2, fun k hk => ?_⟩
        rcases Nat.lt_succ_iff_lt_or_eq.1 hk with e | rfl
        · have := k3 k e; omega
        · exact h4
theorem risTo_le {n : Nat} {c : List Int} {i : Nat} (h : risTo n c i = true) : i ≤ n := by
  cases i with
  | zero => omega
  | succ i =>
    obtain ⟨h1, h2, _⟩ := risTo_at h i (by omega)
    omega
theorem risB_iff {n : Nat} {c : List Int} : risB n c = true ↔ Rising n c := by
  constructor
  · intro h
    refine ⟨fun i hi => ?_, fun i hi => (risTo_at h i hi).2.1, fun i j hij hj => (risTo_at h j hj).2.2 i hij⟩
    have := (risTo_at h i hi).1
    omega
  · intro r
    simp only [risB, risTo, List.all_eq_true, List.mem_range, Bool.not_eq_true', badR_iff]
    exact fun i hi => ⟨r.lo i hi, r.hi i hi, fun h0 => r.up (i - 1) i (by omega) hi⟩
def worthP (s : House) (l : List Bkg) (ws c : List Int) : Int × Bool := if risB l.length c && wholeB l (inC c) then (valL ws c, decide (errStaff s (someL l (inC c)) = 0)) else (0, false)
theorem ok48 : codeOk Try.f48.ntmps (bodyOf Try.f48) = true := by kernel_rfl
theorem worth48 {h : Hp} {cv mv lv pv ov : Value} {s : House} {l : List Bkg} {ws c : List Int} (a : HouseAt h cv mv s) (bl : BksAt h lv l) (hw : SlOk h pv 1 ws.length (ws.map I)) (hc : SlOk h ov 1 c.length (c.map I)) (w : BkOk s l) (l6 : l.length ≤ 6) (hwl : ws.length = l.length) (hv : valued ws = true) :
    ∃ v h', CallX Try.prog 48 #[.agg #[cv, mv, I s.cake], lv, pv, ov] h v h' ∧ (v = .tuple #[I (worthP s l ws c).1, .bool (worthP s l ws c).2] ∧ Grow h h') := by
  refine run_any Tok hm Try.func48 (by kernel_rfl) (by kernel_rfl) ok48 (Nat.le_of_ble_eq_true rfl) ?_
  repeat (first
    | with_reducible refine draw_enter ?_
    | with_reducible exact rok_nil
    | ((with_reducible refine rok_cons ?_ ?_); (first | exact Or.inl (by decide +kernel) | exact Or.inr (by simp [bodyOf, Try.f48, hc.len]) | exact Or.inr (fun hlt => by simp [kill_none, Hp.alloc_g, Nat.ne_of_lt hlt])))
    | with_reducible refine rok_and ?_ ?_
    | ((with_reducible refine eok_cons ?_ ?_); (first | exact Or.inl (by decide +kernel) | exact Or.inr (by simp [bodyOf, Try.f48, hc.len]) | exact Or.inr (fun hlt => by simp [kill_none, Hp.alloc_g, Nat.ne_of_lt hlt])))
    | with_reducible refine eok_and ?_ ?_
    | simp -implicitDefEqProofs [bodyOf, Try.f48, hc.len])
  refine run_for Tok hm (by kernel_rfl) [8, 9, 10, 11, 16, 17, 18, 19, 20, 21, 22, 23, 24, 25, 26, 27, 28, 29, 30, 31, 32, 33, 34, 35, 36, 37, 38, 39, 40, 41, 42, 43, 44, 45, 46, 47, 48, 49, 50, 51, 52, 53, 54, 55, 56, 57, 58, 59, 60] (by kernel_rfl) (h.n + 1) c.length (fun i f h1 => f 11 = I i ∧ f 10 = I (valL ws (c.take i)) ∧ risTo l.length c i = true) ?_ ?_ ?_
  · exact ⟨by simp, by simp [valL], by simp [risTo]⟩
  · rintro i f h1 hi ⟨h11, h10, hall⟩ fr hu
    have hg : Grow h h1 := hu.grow (by simp) (by simp)
    have hin := risTo_le hall
    have c1 := hc.grow hg
    have rc := c1.ref (by omega)
    have ltc := c1.lt (by omega)
    have lc := ld_int c1 hi
    have lc' := ld_int c1 (i := i - 1) (by omega)
    have hwi := wrap_succ (i := i) (n := i + 1) (by omega) (by omega)
    have hws : 0 < i → IntKind.i64.wrap ((i : Int) - 1) = ((i - 1 : Nat) : Int) := fun h0 => by rw [IntWalk.i64_in _ (by omega)]; omega
    have hs := risTo_succ (n := l.length) (c := c) (i := i)
    rw [hall, Bool.true_and] at hs
    by_cases q1 : gI c i < 0
    · have hf : risB l.length c = false := risTo_false (i := i + 1) (by rw [hs]; simp [badR, q1]) hi
      have hP : worthP s l ws c = (0, false) := by simp [worthP, hf]
      repeat (first
        | with_reducible refine draw_enter ?_
        | with_reducible exact rok_nil
        | ((with_reducible refine rok_cons ?_ ?_); (first | exact Or.inl (by decide +kernel) | exact Or.inr (by simp [h11, h10, fr, hc.len, hi, rc, ltc, lc, q1, hP, hg]) | exact Or.inr (fun hlt => by simp [kill_none, Hp.alloc_g, Nat.ne_of_lt hlt])))
        | with_reducible refine rok_and ?_ ?_
        | ((with_reducible refine eok_cons ?_ ?_); (first | exact Or.inl (by decide +kernel) | exact Or.inr (by simp [h11, h10, fr, hc.len, hi, rc, ltc, lc, q1, hP, hg]) | exact Or.inr (fun hlt => by simp [kill_none, Hp.alloc_g, Nat.ne_of_lt hlt])))
        | with_reducible refine eok_and ?_ ?_
        | simp -implicitDefEqProofs [h11, h10, fr, hc.len, hi, rc, ltc, lc, q1, hP, hg])
    by_cases q2 : (l.length : Int) ≤ gI c i
    · have hf : risB l.length c = false := risTo_false (i := i + 1) (by rw [hs]; simp [badR, q2]) hi
      have hP : worthP s l ws c = (0, false) := by simp [worthP, hf]
      repeat (first
        | with_reducible refine draw_enter ?_
        | with_reducible exact rok_nil
        | ((with_reducible refine rok_cons ?_ ?_); (first | exact Or.inl (by decide +kernel) | exact Or.inr (by simp [h11, h10, fr, hc.len, bl.len, hi, rc, ltc, lc, q1, q2, hP, hg]) | exact Or.inr (fun hlt => by simp [kill_none, Hp.alloc_g, Nat.ne_of_lt hlt])))
        | with_reducible refine rok_and ?_ ?_
        | ((with_reducible refine eok_cons ?_ ?_); (first | exact Or.inl (by decide +kernel) | exact Or.inr (by simp [h11, h10, fr, hc.len, bl.len, hi, rc, ltc, lc, q1, q2, hP, hg]) | exact Or.inr (fun hlt => by simp [kill_none, Hp.alloc_g, Nat.ne_of_lt hlt])))
        | with_reducible refine eok_and ?_ ?_
        | simp -implicitDefEqProofs [h11, h10, fr, hc.len, bl.len, hi, rc, ltc, lc, q1, q2, hP, hg])
    obtain ⟨j, hj⟩ : ∃ j : Nat, gI c i = j := ⟨_, (Int.toNat_of_nonneg (by omega)).symm⟩
    have hjl : j < l.length := by omega
    have hjw : j < ws.length := by omega
    have hj0 : ¬ (j : Int) < 0 := by omega
    have hjn : ¬ (l.length ≤ j) := by omega
    have w1 := hw.grow hg
    have rw1 := w1.ref (by omega)
    have ltw := w1.lt (by omega)
    have lw := ld_int w1 hjw
    have hvt := valL_take (ws := ws) hi
    rw [hj, Int.toNat_natCast] at hvt
    have hb1 := valL_le hv (c := c.take (i + 1))
    have hwv : IntKind.i64.wrap (valL ws (c.take i) + gI ws j) = valL ws (c.take (i + 1)) := by rw [← hvt]; exact IntWalk.i64_in _ (by have : (c.take (i + 1)).length ≤ i + 1 := List.length_take_le _ _; omega)
    rw [hj] at lc q1 q2
    by_cases q3 : 0 < i
    · have hwq := hws q3
      have hi1 : i - 1 < c.length := by omega
      by_cases q4 : gI c i ≤ gI c (i - 1)
      · have hf : risB l.length c = false := risTo_false (i := i + 1) (by rw [hs]; simp [badR, q3, q4]) hi
        have hP : worthP s l ws c = (0, false) := by simp [worthP, hf]
        rw [hj] at q4
        repeat (first
          | with_reducible refine draw_enter ?_
          | with_reducible exact rok_nil
          | ((with_reducible refine rok_cons ?_ ?_); (first | exact Or.inl (by decide +kernel) | exact Or.inr (by simp [h11, h10, fr, hc.len, bl.len, hi, hi1, rc, ltc, lc, lc', hj0, hjn, q3, q4, hwq, hP, hg]) | exact Or.inr (fun hlt => by simp [kill_none, Hp.alloc_g, Nat.ne_of_lt hlt])))
          | with_reducible refine rok_and ?_ ?_
          | ((with_reducible refine eok_cons ?_ ?_); (first | exact Or.inl (by decide +kernel) | exact Or.inr (by simp [h11, h10, fr, hc.len, bl.len, hi, hi1, rc, ltc, lc, lc', hj0, hjn, q3, q4, hwq, hP, hg]) | exact Or.inr (fun hlt => by simp [kill_none, Hp.alloc_g, Nat.ne_of_lt hlt])))
          | with_reducible refine eok_and ?_ ?_
          | simp -implicitDefEqProofs [h11, h10, fr, hc.len, bl.len, hi, hi1, rc, ltc, lc, lc', hj0, hjn, q3, q4, hwq, hP, hg])
      · have hok : risTo l.length c (i + 1) = true := by rw [hs]; simp [badR, hj, hjl, q3]; rw [hj] at q4; omega
        rw [hj] at q4
        repeat (first
          | with_reducible refine draw_enter ?_
          | with_reducible exact rok_nil
          | ((with_reducible refine rok_cons ?_ ?_); (first | exact Or.inl (by decide +kernel) | exact Or.inr (by simp [h11, h10, fr, hc.len, bl.len, hi, hi1, rc, ltc, lc, lc', hj0, hjn, q3, q4, hwq, hjw, rw1, ltw, lw, hwv, hwi]) | exact Or.inr (fun hlt => by simp [kill_none, Hp.alloc_g, Nat.ne_of_lt hlt])))
          | with_reducible refine rok_and ?_ ?_
          | ((with_reducible refine eok_cons ?_ ?_); (first | exact Or.inl (by decide +kernel) | exact Or.inr (by simp [h11, h10, fr, hc.len, bl.len, hi, hi1, rc, ltc, lc, lc', hj0, hjn, q3, q4, hwq, hjw, rw1, ltw, lw, hwv, hwi]) | exact Or.inr (fun hlt => by simp [kill_none, Hp.alloc_g, Nat.ne_of_lt hlt])))
          | with_reducible refine eok_and ?_ ?_
          | simp -implicitDefEqProofs [h11, h10, fr, hc.len, bl.len, hi, hi1, rc, ltc, lc, lc', hj0, hjn, q3, q4, hwq, hjw, rw1, ltw, lw, hwv, hwi])
        exact hok
    · have hok : risTo l.length c (i + 1) = true := by rw [hs]; simp [badR, hj, hjl, q3]
      repeat (first
        | with_reducible refine draw_enter ?_
        | with_reducible exact rok_nil
        | ((with_reducible refine rok_cons ?_ ?_); (first | exact Or.inl (by decide +kernel) | exact Or.inr (by simp [h11, h10, fr, hc.len, bl.len, hi, rc, ltc, lc, hj0, hjn, q3, hjw, rw1, ltw, lw, hwv, hwi]) | exact Or.inr (fun hlt => by simp [kill_none, Hp.alloc_g, Nat.ne_of_lt hlt])))
        | with_reducible refine rok_and ?_ ?_
        | ((with_reducible refine eok_cons ?_ ?_); (first | exact Or.inl (by decide +kernel) | exact Or.inr (by simp [h11, h10, fr, hc.len, bl.len, hi, rc, ltc, lc, hj0, hjn, q3, hjw, rw1, ltw, lw, hwv, hwi]) | exact Or.inr (fun hlt => by simp [kill_none, Hp.alloc_g, Nat.ne_of_lt hlt])))
        | with_reducible refine eok_and ?_ ?_
        | simp -implicitDefEqProofs [h11, h10, fr, hc.len, bl.len, hi, rc, ltc, lc, hj0, hjn, q3, hjw, rw1, ltw, lw, hwv, hwi])
      exact hok
  · rintro f h1 ⟨h11, h10, hall⟩ fr hu
    have hg : Grow h h1 := hu.grow (by simp) (by simp)
    have hb1 : h1.g h.n = .row true 3 [cv, mv, I s.cake] := by rw [hu.2 _ (by simp)]; simp
    have hn : h.n < h1.n := by have := hu.1; simp at this; omega
    rw [List.take_length] at h10
    have hr : risB l.length c = true := hall
    have hcl := risTo_le hall
    have h82 := some82 (bl.grow hg) (hc.grow hg) (risB_iff.1 hr) (by omega) (by omega) w.rvs
    repeat (first
      | ((with_reducible refine call_step' (h82) ?_); rintro v7 h7 ⟨sl7, rfl, g7, s7⟩)
      | with_reducible refine draw_enter ?_
      | with_reducible exact rok_nil
      | ((with_reducible refine rok_cons ?_ ?_); (first | exact Or.inl (by decide +kernel) | exact Or.inr (by simp [h11, fr, hc.len]) | exact Or.inr (fun hlt => by simp [kill_none, Hp.alloc_g, Nat.ne_of_lt hlt])))
      | with_reducible refine rok_and ?_ ?_
      | ((with_reducible refine eok_cons ?_ ?_); (first | exact Or.inl (by decide +kernel) | exact Or.inr (by simp [h11, fr, hc.len]) | exact Or.inr (fun hlt => by simp [kill_none, Hp.alloc_g, Nat.ne_of_lt hlt])))
      | with_reducible refine eok_and ?_ ?_
      | simp -implicitDefEqProofs [h11, fr, hc.len])
    have hg7 : Grow h h7 := hg.trans g7
    cases qw : wholeB l (inC c) with
    | false =>
      have hP : worthP s l ws c = (0, false) := by simp [worthP, qw]
      repeat (first
        | with_reducible refine draw_enter ?_
        | with_reducible exact rok_nil
        | ((with_reducible refine rok_cons ?_ ?_); (first | exact Or.inl (by decide +kernel) | exact Or.inr (by simp [qw, hP, hg7]) | exact Or.inr (fun hlt => by simp [kill_none, Hp.alloc_g, Nat.ne_of_lt hlt])))
        | with_reducible refine rok_and ?_ ?_
        | ((with_reducible refine eok_cons ?_ ?_); (first | exact Or.inl (by decide +kernel) | exact Or.inr (by simp [qw, hP, hg7]) | exact Or.inr (fun hlt => by simp [kill_none, Hp.alloc_g, Nat.ne_of_lt hlt])))
        | with_reducible refine eok_and ?_ ?_
        | simp -implicitDefEqProofs [qw, hP, hg7])
    | true =>
      have hP : worthP s l ws c = (valL ws c, decide (errStaff s (someL l (inC c)) = 0)) := by simp [worthP, hr, qw]
      have hb7 : h7.g h.n = .row true 3 [cv, mv, I s.cake] := by rw [g7.2 _ hn]; exact hb1
      have hn7 : h.n < h7.n := by have := g7.1; omega
      have hlen : (someL l (inC c)).length < 20 := by rw [someL_len]; have := cntK_le (kp := inC c) (i := l.length); omega
      repeat (first
        | ((with_reducible refine call_step' (staff30 (a.grow hg7) (s7 qw).sl (fun _ => hlen)) ?_); rintro v8 h8 ⟨sl8, rfl, g8, s8⟩)
        | with_reducible refine draw_enter ?_
        | with_reducible exact rok_nil
        | ((with_reducible refine rok_cons ?_ ?_); (first | exact Or.inl (by decide +kernel) | exact Or.inr (by simp [qw, fr, hb7, hn7]) | exact Or.inr (fun hlt => by simp [kill_none, Hp.alloc_g, Nat.ne_of_lt hlt])))
        | with_reducible refine rok_and ?_ ?_
        | ((with_reducible refine eok_cons ?_ ?_); (first | exact Or.inl (by decide +kernel) | exact Or.inr (by simp [qw, fr, hb7, hn7]) | exact Or.inr (fun hlt => by simp [kill_none, Hp.alloc_g, Nat.ne_of_lt hlt])))
        | with_reducible refine eok_and ?_ ?_
        | simp -implicitDefEqProofs [qw, fr, hb7, hn7])
      have hg8 : Grow h h8 := hg7.trans g8
      repeat (first
        | with_reducible refine draw_enter ?_
        | with_reducible exact rok_nil
        | ((with_reducible refine rok_cons ?_ ?_); (first | exact Or.inl (by decide +kernel) | exact Or.inr (by simp [hP, h10, fr, hg8]) | exact Or.inr (fun hlt => by simp [kill_none, Hp.alloc_g, Nat.ne_of_lt hlt])))
        | with_reducible refine rok_and ?_ ?_
        | ((with_reducible refine eok_cons ?_ ?_); (first | exact Or.inl (by decide +kernel) | exact Or.inr (by simp [hP, h10, fr, hg8]) | exact Or.inr (fun hlt => by simp [kill_none, Hp.alloc_g, Nat.ne_of_lt hlt])))
        | with_reducible refine eok_and ?_ ?_
        | simp -implicitDefEqProofs [hP, h10, fr, hg8])
end Go.Proofs
