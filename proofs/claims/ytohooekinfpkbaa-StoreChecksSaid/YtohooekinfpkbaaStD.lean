/- Part of the proofs of the laws (see the last text of a claim): contracts of functions. -/
import Derived.Test.YtohooekinfpkbaaStC
import Derived.Test.YtohooekinfpkbaaFwY
set_option linter.unusedSimpArgs false
set_option linter.unusedVariables false
open Go Go.Fw
namespace Go.Proofs
attribute [local irreducible] Run RunOps RunDraw pop condK guardK guardKD resK drawK RunD dK gK
set_option maxRecDepth 4000
theorem ok24 : codeOk Try.f24.ntmps (bodyOf Try.f24) = true := by kernel_rfl
theorem sameInts_call {h : Hp} {v w : Value} {xs ys : List Int} (hx : SlOk h v 1 xs.length (xs.map I)) (hy : SlOk h w 1 ys.length (ys.map I)) (hb : xs.length ≤ 1000000) :
    CallX Try.prog 24 #[v, w] h (.bool (decide (xs = ys))) h := by
  refine run_flat Tok hm Try.func24 (by kernel_rfl) (by kernel_rfl) ok24 (Nat.le_of_ble_eq_true rfl) ?_
  by_cases hl : xs.length = ys.length
  case neg =>
    have e2 : xs ≠ ys := fun e => hl (by rw [e])
    simp -implicitDefEqProofs [bodyOf, Try.f24, hx.len, hy.len, hl, e2]
  simp -implicitDefEqProofs [bodyOf, Try.f24, hx.len, hy.len, hl]
  refine run_for Tok hm (by kernel_rfl) [4, 5, 11, 12, 13, 14, 15, 16, 17, 18, 19, 20, 21, 22, 23, 24, 25] (by kernel_rfl) h.n xs.length (fun i f h1 => f 5 = I i ∧ ∀ j, j < i → xs[j]? = ys[j]?) ?_ ?_ ?_
  · simp
  · rintro i f h1 hi ⟨h5, hall⟩ fr hu
    have hxx := hx.grow hu
    have hyy := hy.grow hu
    have r1 := hxx.ref (by omega)
    have r2 := hyy.ref (by omega)
    have l1 := ld_one hxx (i := i) (by simpa using hi)
    have l2 := ld_one hyy (i := i) (by simpa using hl ▸ hi)
    have hi2 := hl ▸ hi
    have hw := wrap_succ hi hb
    have hg : Grow h h1 := hu
    by_cases he : xs[i] = ys[i]
    · have := all_succ (p := fun j => xs[j]? = ys[j]?) hall (by simp [hi, hi2, he])
      repeat (first
        | with_reducible refine draw_enter ?_
        | with_reducible exact rok_nil
        | ((with_reducible refine rok_cons ?_ ?_); (first | exact Or.inl (by decide +kernel) | exact Or.inr (by simp [h5, fr, hx.len, r1, r2, l1, l2, hi, hi2, he, hw])))
        | with_reducible refine rok_and ?_ ?_
        | ((with_reducible refine eok_cons ?_ ?_); (first | exact Or.inl (by decide +kernel) | exact Or.inr (by simp [h5, fr, hx.len, r1, r2, l1, l2, hi, hi2, he, hw])))
        | with_reducible refine eok_and ?_ ?_
        | simp -implicitDefEqProofs [h5, fr, hx.len, r1, r2, l1, l2, hi, hi2, he, hw])
      exact this
    · have hne : xs ≠ ys := by
        intro e
        subst e
        simp at he
      repeat (first
        | with_reducible refine draw_enter ?_
        | with_reducible exact rok_nil
        | ((with_reducible refine rok_cons ?_ ?_); (first | exact Or.inl (by decide +kernel) | exact Or.inr (by simp [h5, fr, hx.len, r1, r2, l1, l2, hi, hi2, he, hne, hg])))
        | with_reducible refine rok_and ?_ ?_
        | ((with_reducible refine eok_cons ?_ ?_); (first | exact Or.inl (by decide +kernel) | exact Or.inr (by simp [h5, fr, hx.len, r1, r2, l1, l2, hi, hi2, he, hne, hg])))
        | with_reducible refine eok_and ?_ ?_
        | simp -implicitDefEqProofs [h5, fr, hx.len, r1, r2, l1, l2, hi, hi2, he, hne, hg])
  · rintro f h1 ⟨h5, hall⟩ fr hu
    have hg : Grow h h1 := hu
    have he : xs = ys := List.ext_getElem? fun j => by
      by_cases hj : j < xs.length
      · exact hall j hj
      · rw [List.getElem?_eq_none (by omega), List.getElem?_eq_none (by omega)]
    repeat (first
      | with_reducible refine draw_enter ?_
      | with_reducible exact rok_nil
      | ((with_reducible refine rok_cons ?_ ?_); (first | exact Or.inl (by decide +kernel) | exact Or.inr (by simp [h5, fr, hx.len, hg, ← he])))
      | with_reducible refine rok_and ?_ ?_
      | ((with_reducible refine eok_cons ?_ ?_); (first | exact Or.inl (by decide +kernel) | exact Or.inr (by simp [h5, fr, hx.len, hg, ← he])))
      | with_reducible refine eok_and ?_ ?_
      | simp -implicitDefEqProofs [h5, fr, hx.len, hg, ← he])
end Go.Proofs
