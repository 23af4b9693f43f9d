/- Part of the proofs of the laws (see the last text of a claim): contracts of functions, and what they are shown with. -/
import Derived.Test.YtmbjfekagoepgaaDkH
set_option linter.unusedSimpArgs false
set_option linter.unusedVariables false
open Go Go.Fw
namespace Go.Proofs
attribute [local irreducible] Run RunOps RunDraw pop condK guardK guardKD resK drawK RunD dK Fw.gK
set_option maxRecDepth 4000
theorem valued_iff {ws : List Int} : valued ws = true ↔ ∀ i, i < ws.length → within (gI ws i) 0 100000 = true := by
  simp only [valued, Bool.not_eq_true', List.any_eq_false, Bool.not_eq_true, Bool.not_eq_false']
  constructor
  · intro h i hi
    simpa using h _ (gI_mem hi)
  · intro h x hx
    obtain ⟨i, hi, rfl⟩ := List.getElem_of_mem hx
    rw [gI_get hi, h i hi]
    simp
theorem ok47 : codeOk Try.f47.ntmps (bodyOf Try.f47) = true := by kernel_rfl
theorem choose47 {h : Hp} {cv mv lv pv : Value} {s : House} {l : List Bkg} {ws : List Int} (a : HouseAt h cv mv s) (bl : BksAt h lv l) (hw : SlOk h pv 1 ws.length (ws.map I)) (hl : l.length ≤ 6 ∨ 12 < l.length) :
    ∃ v h', CallX Try.prog 47 #[.agg #[cv, mv, I s.cake], lv, pv] h v h' ∧ GivesPick h (chE s l ws) (chP s l ws) v h' := by
  refine run_any Tok hm Try.func47 (by kernel_rfl) (by kernel_rfl) ok47 (Nat.le_of_ble_eq_true rfl) ?_
  by_cases e : errCheck s l = 0
  case neg =>
    have he : chE s l ws = errCheck s l := by simp [chE, e]
    repeat (first
      | with_reducible refine call_step (check26 (a.grow (by simp)) (bl.grow (by simp))) ?_
      | with_reducible refine draw_enter ?_
      | with_reducible refine q_call (check26 (a.grow (by simp)) (bl.grow (by simp))) ROk.refl ?_
      | with_reducible exact rok_nil
      | ((with_reducible refine rok_cons ?_ ?_); (first | exact Or.inl (by decide +kernel) | exact Or.inr (by simp [bodyOf, Try.f47, e, he]) | exact Or.inr (fun hlt => by simp [kill_none, Hp.alloc_g, Nat.ne_of_lt hlt])))
      | with_reducible refine rok_and ?_ ?_
      | ((with_reducible refine eok_cons ?_ ?_); (first | exact Or.inl (by decide +kernel) | exact Or.inr (by simp [bodyOf, Try.f47, e, he]) | exact Or.inr (fun hlt => by simp [kill_none, Hp.alloc_g, Nat.ne_of_lt hlt])))
      | with_reducible refine eok_and ?_ ?_
      | simp -implicitDefEqProofs [bodyOf, Try.f47, e, he])
    exact GivesPick.nil (by simp) (by simp [chP, he, e])
  have w := bkOk_iff.1 e
  by_cases q12 : 12 < l.length
  · have he : chE s l ws = 2 := by simp [chE, e, q12]
    repeat (first
      | with_reducible refine call_step (check26 (a.grow (by simp)) (bl.grow (by simp))) ?_
      | with_reducible refine draw_enter ?_
      | with_reducible refine q_call (check26 (a.grow (by simp)) (bl.grow (by simp))) ROk.refl ?_
      | with_reducible exact rok_nil
      | ((with_reducible refine rok_cons ?_ ?_); (first | exact Or.inl (by decide +kernel) | exact Or.inr (by simp [bodyOf, Try.f47, e, he, bl.len, q12]) | exact Or.inr (fun hlt => by simp [kill_none, Hp.alloc_g, Nat.ne_of_lt hlt])))
      | with_reducible refine rok_and ?_ ?_
      | ((with_reducible refine eok_cons ?_ ?_); (first | exact Or.inl (by decide +kernel) | exact Or.inr (by simp [bodyOf, Try.f47, e, he, bl.len, q12]) | exact Or.inr (fun hlt => by simp [kill_none, Hp.alloc_g, Nat.ne_of_lt hlt])))
      | with_reducible refine eok_and ?_ ?_
      | simp -implicitDefEqProofs [bodyOf, Try.f47, e, he, bl.len, q12])
    exact GivesPick.nil (by simp) (by simp [chP, he])
  by_cases qa : ws.length = l.length
  case neg =>
    have he : chE s l ws = 1 := by simp [chE, e, q12, chArgs, qa]
    repeat (first
      | with_reducible refine call_step (check26 (a.grow (by simp)) (bl.grow (by simp))) ?_
      | with_reducible refine draw_enter ?_
      | with_reducible refine q_call (check26 (a.grow (by simp)) (bl.grow (by simp))) ROk.refl ?_
      | with_reducible exact rok_nil
      | ((with_reducible refine rok_cons ?_ ?_); (first | exact Or.inl (by decide +kernel) | exact Or.inr (by simp [bodyOf, Try.f47, e, he, bl.len, hw.len, q12, qa]) | exact Or.inr (fun hlt => by simp [kill_none, Hp.alloc_g, Nat.ne_of_lt hlt])))
      | with_reducible refine rok_and ?_ ?_
      | ((with_reducible refine eok_cons ?_ ?_); (first | exact Or.inl (by decide +kernel) | exact Or.inr (by simp [bodyOf, Try.f47, e, he, bl.len, hw.len, q12, qa]) | exact Or.inr (fun hlt => by simp [kill_none, Hp.alloc_g, Nat.ne_of_lt hlt])))
      | with_reducible refine eok_and ?_ ?_
      | simp -implicitDefEqProofs [bodyOf, Try.f47, e, he, bl.len, hw.len, q12, qa])
    exact GivesPick.nil (by simp) (by simp [chP, he])
  have l6 : l.length ≤ 6 := by omega
  have hwl := hw.len
  rw [qa] at hwl
  repeat (first
    | with_reducible refine call_step (check26 (a.grow (by simp)) (bl.grow (by simp))) ?_
    | with_reducible refine draw_enter ?_
    | with_reducible refine q_call (check26 (a.grow (by simp)) (bl.grow (by simp))) ROk.refl ?_
    | with_reducible exact rok_nil
    | ((with_reducible refine rok_cons ?_ ?_); (first | exact Or.inl (by decide +kernel) | exact Or.inr (by simp [bodyOf, Try.f47, e, bl.len, hwl, q12]) | exact Or.inr (fun hlt => by simp [kill_none, Hp.alloc_g, Nat.ne_of_lt hlt])))
    | with_reducible refine rok_and ?_ ?_
    | ((with_reducible refine eok_cons ?_ ?_); (first | exact Or.inl (by decide +kernel) | exact Or.inr (by simp [bodyOf, Try.f47, e, bl.len, hwl, q12]) | exact Or.inr (fun hlt => by simp [kill_none, Hp.alloc_g, Nat.ne_of_lt hlt])))
    | with_reducible refine eok_and ?_ ?_
    | simp -implicitDefEqProofs [bodyOf, Try.f47, e, bl.len, hwl, q12])
  refine run_for Tok hm (by kernel_rfl) [6, 7, 8, 10, 33, 34, 35, 36, 37, 38, 39, 40, 41, 42, 43, 44] (by kernel_rfl) (h.n + 1) ws.length (fun i f h1 => f 10 = I i ∧ ∀ j, j < i → within (gI ws j) 0 100000 = true) ?_ ?_ ?_
  · exact ⟨by simp, fun j hj => absurd hj (by omega)⟩
  · rintro i f h1 hi ⟨h10, hall⟩ fr hu
    have hg : Grow h h1 := hu.grow (by simp) (by simp)
    have w1 := hw.grow hg
    have hil : i < l.length := by omega
    have rw1 := w1.ref (by omega)
    have ltw := w1.lt (by omega)
    have lw := ld_int w1 hi
    have hwi := wrap_succ hi (by omega)
    cases q : within (gI ws i) 0 100000 with
    | false =>
      have hv : valued ws = false := by
        cases hv : valued ws with
        | false => rfl
        | true => rw [valued_iff.1 hv i hi] at q; cases q
      have he : chE s l ws = 1 := by simp [chE, e, q12, chArgs, hv]
      repeat (first
        | with_reducible refine call_step (within56 _ _ _ _) ?_
        | with_reducible refine draw_enter ?_
        | with_reducible refine q_call (within56 _ _ _ _) ROk.refl ?_
        | with_reducible exact rok_nil
        | ((with_reducible refine rok_cons ?_ ?_); (first | exact Or.inl (by decide +kernel) | exact Or.inr (by simp [h10, fr, hwl, hi, hil, rw1, ltw, lw, q, he]) | exact Or.inr (fun hlt => by simp [kill_none, Hp.alloc_g, Nat.ne_of_lt hlt])))
        | with_reducible refine rok_and ?_ ?_
        | ((with_reducible refine eok_cons ?_ ?_); (first | exact Or.inl (by decide +kernel) | exact Or.inr (by simp [h10, fr, hwl, hi, hil, rw1, ltw, lw, q, he]) | exact Or.inr (fun hlt => by simp [kill_none, Hp.alloc_g, Nat.ne_of_lt hlt])))
        | with_reducible refine eok_and ?_ ?_
        | simp -implicitDefEqProofs [h10, fr, hwl, hi, hil, rw1, ltw, lw, q, he])
      exact GivesPick.nil hg (by simp [chP, he])
    | true =>
      repeat (first
        | with_reducible refine call_step (within56 _ _ _ _) ?_
        | with_reducible refine draw_enter ?_
        | with_reducible refine q_call (within56 _ _ _ _) ROk.refl ?_
        | with_reducible exact rok_nil
        | ((with_reducible refine rok_cons ?_ ?_); (first | exact Or.inl (by decide +kernel) | exact Or.inr (by simp [h10, fr, hwl, hi, hil, rw1, ltw, lw, q, hwi]) | exact Or.inr (fun hlt => by simp [kill_none, Hp.alloc_g, Nat.ne_of_lt hlt])))
        | with_reducible refine rok_and ?_ ?_
        | ((with_reducible refine eok_cons ?_ ?_); (first | exact Or.inl (by decide +kernel) | exact Or.inr (by simp [h10, fr, hwl, hi, hil, rw1, ltw, lw, q, hwi]) | exact Or.inr (fun hlt => by simp [kill_none, Hp.alloc_g, Nat.ne_of_lt hlt])))
        | with_reducible refine eok_and ?_ ?_
        | simp -implicitDefEqProofs [h10, fr, hwl, hi, hil, rw1, ltw, lw, q, hwi])
      exact all_succ hall q
  · rintro f h1 ⟨h10, hall⟩ fr hu
    have hg : Grow h h1 := hu.grow (by simp) (by simp)
    have hn : h.n < h1.n := by have := hu.1; simp at this; omega
    have hb1 : h1.g h.n = .row true 3 [cv, mv, I s.cake] := by rw [hu.2 _ (by simp)]; simp
    have hv : valued ws = true := valued_iff.2 hall
    have he : chE s l ws = 0 := by simp [chE, e, q12, chArgs, qa, hv]
    have hP : chP s l ws = bestTo s l ws (2 ^ l.length) := by simp [chP, he]
    obtain ⟨M, hM⟩ : ∃ M, M = 2 ^ l.length := ⟨_, rfl⟩
    have hM6 : M ≤ 64 := by rw [hM]; exact Nat.pow_le_pow_right (n := 2) (by omega) l6
    have hsh : shl64 1 l.length = (M : Int) := by rw [hM]; exact shl_nat (by omega)
    have hn0 : ¬ (l.length : Int) < 0 := by omega
    have hul := u64_small (n := l.length) (by omega)
    repeat (first
      | with_reducible refine draw_enter ?_
      | with_reducible exact rok_nil
      | ((with_reducible refine rok_cons ?_ ?_); (first | exact Or.inl (by decide +kernel) | exact Or.inr (by simp [h10, fr, hwl, qa]) | exact Or.inr (fun hlt => by simp [kill_none, Hp.alloc_g, Nat.ne_of_lt hlt])))
      | with_reducible refine rok_and ?_ ?_
      | ((with_reducible refine eok_cons ?_ ?_); (first | exact Or.inl (by decide +kernel) | exact Or.inr (by simp [h10, fr, hwl, qa]) | exact Or.inr (fun hlt => by simp [kill_none, Hp.alloc_g, Nat.ne_of_lt hlt])))
      | with_reducible refine eok_and ?_ ?_
      | simp -implicitDefEqProofs [h10, fr, hwl, qa])
    refine run_for Tok hm (by kernel_rfl) [11, 12, 13, 14, 15, 16, 17, 18, 45, 46, 47, 48, 49, 50, 51, 52, 53, 54, 55, 56, 57, 58, 59, 60, 61, 62, 63, 64, 65, 66, 67, 68, 69, 70, 71, 72, 73, 74, 75, 76, 77, 78, 79, 80, 81, 82, 83, 84, 85, 86, 87, 88, 89, 90, 91, 92, 93, 94, 95, 96, 97, 98, 99, 100, 101, 102, 103] (by kernel_rfl) h1.n M (fun B f2 h2 => f2 13 = I B ∧ f2 12 = I (bestTo s l ws B).2 ∧ Acc h1.n h2 1 (f2 11) (bestTo s l ws B).1.length ((bestTo s l ws B).1.map I)) ?_ ?_ ?_
    · exact ⟨by simp, by simp [bestTo], by simpa [bestTo] using Acc.nil⟩
    · rintro B f2 h2 hB ⟨h13, f12, acc⟩ fr2 hu2
      have hg2 : Grow h h2 := hg.trans hu2
      have hb2 : h2.g h.n = .row true 3 [cv, mv, I s.cake] := by rw [hu2.2 _ hn]; exact hb1
      refine choose47b (a.grow hg2) (bl.grow hg2) (hw.grow hg2) w l6 qa hv hM hB hb2 (by have := hu2.1; omega) hu2.1 (by simp [fr2, fr]) (by simp [fr2, fr]) (by simp [fr2, fr]) h13 f12 acc (by kernel_rfl) fun f' h' k13 k12 k11 u => ?_
      simp only [fk_normal]
      exact ⟨u.mono hu2.1, k13, k12, k11⟩
    · rintro f2 h2 ⟨h13, f12, acc⟩ fr2 hu2
      have hg2 : Grow h h2 := hg.trans hu2
      repeat (first
        | with_reducible refine draw_enter ?_
        | with_reducible exact rok_nil
        | ((with_reducible refine rok_cons ?_ ?_); (first | exact Or.inl (by decide +kernel) | exact Or.inr (by simp [h13, fr2, fr, f12, he, bl.len, hul, hsh, hn0]) | exact Or.inr (fun hlt => by simp [kill_none, Hp.alloc_g, Nat.ne_of_lt hlt])))
        | with_reducible refine rok_and ?_ ?_
        | ((with_reducible refine eok_cons ?_ ?_); (first | exact Or.inl (by decide +kernel) | exact Or.inr (by simp [h13, fr2, fr, f12, he, bl.len, hul, hsh, hn0]) | exact Or.inr (fun hlt => by simp [kill_none, Hp.alloc_g, Nat.ne_of_lt hlt])))
        | with_reducible refine eok_and ?_ ?_
        | simp -implicitDefEqProofs [h13, fr2, fr, f12, he, bl.len, hul, hsh, hn0])
      rw [hP, ← hM]
      exact ⟨_, rfl, hg2, acc.mono (by omega)⟩
end Go.Proofs
