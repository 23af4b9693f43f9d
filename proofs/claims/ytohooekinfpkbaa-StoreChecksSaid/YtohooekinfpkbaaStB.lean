/- Part of the proofs of the laws (see the last text of a claim): contracts of functions. -/
import Derived.Test.YtohooekinfpkbaaStA
import Derived.IntWalk
set_option linter.unusedSimpArgs false
set_option linter.unusedVariables false
open Go Go.Fw
namespace Go.Proofs
attribute [local irreducible] Run RunOps RunDraw pop condK guardK guardKD resK drawK
set_option maxRecDepth 4000
def idxOf {α : Type} (p : α → Bool) (xs : List α) : Int := match xs.findIdx? p with | some i => i | none => -1
theorem idxOf_none {α : Type} {p : α → Bool} {xs : List α} (h : ∀ j (hj : j < xs.length), p xs[j] = false) : idxOf p xs = -1 := by
  have : xs.findIdx? p = none := by
    rw [List.findIdx?_eq_none_iff]
    intro x hx
    obtain ⟨j, hj, rfl⟩ := List.getElem_of_mem hx
    exact h j hj
  simp [idxOf, this]
theorem idxOf_some {α : Type} {p : α → Bool} {xs : List α} {i : Nat} (hi : i < xs.length) (h : ∀ j (hj : j < xs.length), j < i → p xs[j] = false) (hp : p xs[i] = true) : idxOf p xs = i := by
  have : xs.findIdx? p = some i := by
    rw [List.findIdx?_eq_some_iff_getElem]
    exact ⟨hi, hp, fun j hj => by simp [h j (by omega) hj]⟩
  simp [idxOf, this]
theorem idxOf_any {α : Type} {p : α → Bool} {xs : List α} : decide (0 ≤ idxOf p xs) = xs.any p := by
  cases h : xs.any p with
  | true =>
    have : (xs.findIdx? p).isSome = true := by rw [List.findIdx?_isSome]; exact h
    unfold idxOf
    cases h2 : xs.findIdx? p with
    | none => simp [h2] at this
    | some i => simp
  | false =>
    have : xs.findIdx? p = none := by
      rw [List.findIdx?_eq_none_iff]
      intro x hx
      have := List.any_eq_false.1 h x hx
      simpa using this
    simp [idxOf, this]
theorem ok92 : codeOk Try.f92.ntmps (bodyOf Try.f92) = true := by kernel_rfl
theorem index92 {h : Hp} {v : Value} {g : Nat} {fi ca : Array Value} {xs : List Stuff} {p : Stuff → Bool} (hb : xs.length ≤ 1000000) (hs : SlOk h v 2 xs.length (xs.flatMap Stuff.cells))
    (hp : ∀ h', Grow h h' → ∀ x ∈ xs, CallX Try.prog g (fi ++ #[.agg x.cells.toArray] ++ ca) h' (.bool (p x)) h') : CallX Try.prog 92 #[v, .func (.func g) fi ca] h (I (idxOf p xs)) h := by
  refine run_flat Tok hm Try.func92 (by kernel_rfl) (by kernel_rfl) ok92 (Nat.le_of_ble_eq_true rfl) ?_
  simp -implicitDefEqProofs [bodyOf, Try.f92, hs.len]
  refine run_loop Tok hm (by kernel_rfl) (fun m f h1 => ∃ i, i ≤ xs.length ∧ m = xs.length - i ∧ f 8 = I i ∧ f 7 = I xs.length ∧ f 0 = v ∧ f 1 = .func (.func g) fi ca ∧ Grow h h1 ∧ ∀ j (hj : j < xs.length), j < i → p xs[j] = false) ?_ xs.length ?_
  · rintro m f h1 ⟨i, hi, rfl, h8, h7, hv, hf, hg, hall⟩
    simp -implicitDefEqProofs [h8, h7]
    with_reducible refine c_split ?_ ?_ <;> intro hb
    · have hlt : i < xs.length := by simpa using hb
      have hs1 := hs.grow hg
      have href := hs1.ref (by omega)
      have hld := ld_rec (enc := Stuff.cells) (sz := 2) (fun _ => rfl) hs1 hlt rfl
      simp -implicitDefEqProofs [h8, h7, hv, hf, href, hld, hlt]
      have hc := hp h1 hg xs[i] (List.getElem_mem hlt)
      simp at hc
      with_reducible refine call_step hc ?_
      simp -implicitDefEqProofs
      with_reducible refine c_split ?_ ?_ <;> intro hb
      · simp -implicitDefEqProofs [h8, hg, idxOf_some hlt hall hb]
      · simp -implicitDefEqProofs [h8, h7, hv, hf, hg]
        refine ⟨_, ?_, i + 1, hlt, rfl, IntWalk.i64_in _ (by omega), fun j hj hlt' => ?_⟩
        · omega
        · rcases Nat.lt_succ_iff_lt_or_eq.1 hlt' with h2 | rfl
          · exact hall j hj h2
          · exact hb
    · have hge : i = xs.length := by have : ¬ i < xs.length := by simpa using hb
                                     omega
      simp -implicitDefEqProofs [hg, idxOf_none (fun j hj => hall j hj (by omega))]
  · exact ⟨0, by simp⟩
theorem ok68 : codeOk Try.f68.ntmps (bodyOf Try.f68) = true := by kernel_rfl
theorem contains68 {h : Hp} {v : Value} {g : Nat} {fi ca : Array Value} {xs : List Stuff} {p : Stuff → Bool} (hb : xs.length ≤ 1000000) (hs : SlOk h v 2 xs.length (xs.flatMap Stuff.cells))
    (hp : ∀ h', Grow h h' → ∀ x ∈ xs, CallX Try.prog g (fi ++ #[.agg x.cells.toArray] ++ ca) h' (.bool (p x)) h') : CallX Try.prog 68 #[v, .func (.func g) fi ca] h (.bool (xs.any p)) h := by
  refine run_flat Tok hm Try.func68 (by kernel_rfl) (by kernel_rfl) ok68 (Nat.le_of_ble_eq_true rfl) ?_
  simp -implicitDefEqProofs [bodyOf, Try.f68]
  with_reducible refine call_step (index92 hb hs hp) ?_
  simp -implicitDefEqProofs [idxOf_any]
theorem ok105 : codeOk Try.f105.ntmps (bodyOf Try.f105) = true := by kernel_rfl
theorem index105 {h : Hp} {v : Value} {g : Nat} {fi ca : Array Value} {xs : List Loan} {p : Loan → Bool} (hb : xs.length ≤ 1000000) (hs : SlOk h v 5 xs.length (xs.flatMap Loan.cells))
    (hp : ∀ h', Grow h h' → ∀ x ∈ xs, CallX Try.prog g (fi ++ #[.agg x.cells.toArray] ++ ca) h' (.bool (p x)) h') : CallX Try.prog 105 #[v, .func (.func g) fi ca] h (I (idxOf p xs)) h := by
  refine run_flat Tok hm Try.func105 (by kernel_rfl) (by kernel_rfl) ok105 (Nat.le_of_ble_eq_true rfl) ?_
  simp -implicitDefEqProofs [bodyOf, Try.f105, hs.len]
  refine run_loop Tok hm (by kernel_rfl) (fun m f h1 => ∃ i, i ≤ xs.length ∧ m = xs.length - i ∧ f 8 = I i ∧ f 7 = I xs.length ∧ f 0 = v ∧ f 1 = .func (.func g) fi ca ∧ Grow h h1 ∧ ∀ j (hj : j < xs.length), j < i → p xs[j] = false) ?_ xs.length ?_
  · rintro m f h1 ⟨i, hi, rfl, h8, h7, hv, hf, hg, hall⟩
    simp -implicitDefEqProofs [h8, h7]
    with_reducible refine c_split ?_ ?_ <;> intro hb
    · have hlt : i < xs.length := by simpa using hb
      have hs1 := hs.grow hg
      have href := hs1.ref (by omega)
      have hld := ld_rec (enc := Loan.cells) (sz := 5) (fun _ => rfl) hs1 hlt rfl
      simp -implicitDefEqProofs [h8, h7, hv, hf, href, hld, hlt]
      have hc := hp h1 hg xs[i] (List.getElem_mem hlt)
      simp at hc
      with_reducible refine call_step hc ?_
      simp -implicitDefEqProofs
      with_reducible refine c_split ?_ ?_ <;> intro hb
      · simp -implicitDefEqProofs [h8, hg, idxOf_some hlt hall hb]
      · simp -implicitDefEqProofs [h8, h7, hv, hf, hg]
        refine ⟨_, ?_, i + 1, hlt, rfl, IntWalk.i64_in _ (by omega), fun j hj hlt' => ?_⟩
        · omega
        · rcases Nat.lt_succ_iff_lt_or_eq.1 hlt' with h2 | rfl
          · exact hall j hj h2
          · exact hb
    · have hge : i = xs.length := by have : ¬ i < xs.length := by simpa using hb
                                     omega
      simp -implicitDefEqProofs [hg, idxOf_none (fun j hj => hall j hj (by omega))]
  · exact ⟨0, by simp⟩
theorem ok87 : codeOk Try.f87.ntmps (bodyOf Try.f87) = true := by kernel_rfl
theorem contains87 {h : Hp} {v : Value} {g : Nat} {fi ca : Array Value} {xs : List Loan} {p : Loan → Bool} (hb : xs.length ≤ 1000000) (hs : SlOk h v 5 xs.length (xs.flatMap Loan.cells))
    (hp : ∀ h', Grow h h' → ∀ x ∈ xs, CallX Try.prog g (fi ++ #[.agg x.cells.toArray] ++ ca) h' (.bool (p x)) h') : CallX Try.prog 87 #[v, .func (.func g) fi ca] h (.bool (xs.any p)) h := by
  refine run_flat Tok hm Try.func87 (by kernel_rfl) (by kernel_rfl) ok87 (Nat.le_of_ble_eq_true rfl) ?_
  simp -implicitDefEqProofs [bodyOf, Try.f87]
  with_reducible refine call_step (index105 hb hs hp) ?_
  simp -implicitDefEqProofs [idxOf_any]
theorem ok106 : codeOk Try.f106.ntmps (bodyOf Try.f106) = true := by kernel_rfl
theorem index106 {h : Hp} {v : Value} {g : Nat} {fi ca : Array Value} {xs : List Int} {p : Int → Bool} (hb : xs.length ≤ 1000000) (hs : SlOk h v 1 xs.length (xs.map I))
    (hp : ∀ h', Grow h h' → ∀ x ∈ xs, CallX Try.prog g (fi ++ #[I x] ++ ca) h' (.bool (p x)) h') : CallX Try.prog 106 #[v, .func (.func g) fi ca] h (I (idxOf p xs)) h := by
  refine run_flat Tok hm Try.func106 (by kernel_rfl) (by kernel_rfl) ok106 (Nat.le_of_ble_eq_true rfl) ?_
  simp -implicitDefEqProofs [bodyOf, Try.f106, hs.len]
  refine run_loop Tok hm (by kernel_rfl) (fun m f h1 => ∃ i, i ≤ xs.length ∧ m = xs.length - i ∧ f 8 = I i ∧ f 7 = I xs.length ∧ f 0 = v ∧ f 1 = .func (.func g) fi ca ∧ Grow h h1 ∧ ∀ j (hj : j < xs.length), j < i → p xs[j] = false) ?_ xs.length ?_
  · rintro m f h1 ⟨i, hi, rfl, h8, h7, hv, hf, hg, hall⟩
    simp -implicitDefEqProofs [h8, h7]
    with_reducible refine c_split ?_ ?_ <;> intro hb
    · have hlt : i < xs.length := by simpa using hb
      have hs1 := hs.grow hg
      have href := hs1.ref (by omega)
      have hld := ld_one hs1 (i := i) (by simpa using hlt)
      simp -implicitDefEqProofs [h8, h7, hv, hf, href, hld, hlt]
      have hc := hp h1 hg xs[i] (List.getElem_mem hlt)
      simp at hc
      with_reducible refine call_step hc ?_
      simp -implicitDefEqProofs
      with_reducible refine c_split ?_ ?_ <;> intro hb
      · simp -implicitDefEqProofs [h8, hg, idxOf_some hlt hall hb]
      · simp -implicitDefEqProofs [h8, h7, hv, hf, hg]
        refine ⟨_, ?_, i + 1, hlt, rfl, IntWalk.i64_in _ (by omega), fun j hj hlt' => ?_⟩
        · omega
        · rcases Nat.lt_succ_iff_lt_or_eq.1 hlt' with h2 | rfl
          · exact hall j hj h2
          · exact hb
    · have hge : i = xs.length := by have : ¬ i < xs.length := by simpa using hb
                                     omega
      simp -implicitDefEqProofs [hg, idxOf_none (fun j hj => hall j hj (by omega))]
  · exact ⟨0, by simp⟩
theorem ok93 : codeOk Try.f93.ntmps (bodyOf Try.f93) = true := by kernel_rfl
theorem contains93 {h : Hp} {v : Value} {g : Nat} {fi ca : Array Value} {xs : List Int} {p : Int → Bool} (hb : xs.length ≤ 1000000) (hs : SlOk h v 1 xs.length (xs.map I))
    (hp : ∀ h', Grow h h' → ∀ x ∈ xs, CallX Try.prog g (fi ++ #[I x] ++ ca) h' (.bool (p x)) h') : CallX Try.prog 93 #[v, .func (.func g) fi ca] h (.bool (xs.any p)) h := by
  refine run_flat Tok hm Try.func93 (by kernel_rfl) (by kernel_rfl) ok93 (Nat.le_of_ble_eq_true rfl) ?_
  simp -implicitDefEqProofs [bodyOf, Try.f93]
  with_reducible refine call_step (index106 hb hs hp) ?_
  simp -implicitDefEqProofs [idxOf_any]
end Go.Proofs
