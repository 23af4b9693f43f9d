/- Part of the proofs of the laws (see the last text of a claim): contracts of functions, and what they are shown with. -/
import Derived.Test.YtohooekinfpkbaaStNr
set_option linter.unusedSimpArgs false
set_option linter.unusedVariables false
open Go Go.Fw
namespace Go.Proofs
attribute [local irreducible] Run RunOps RunDraw pop condK guardK guardKD resK drawK RunD dK Fw.gK
set_option maxRecDepth 4000
/-- In how many loans two plans differ. -/
def differ (a b : List Int) : Nat → Nat
  | 0 => 0
  | i + 1 => differ a b i + if gI a i = gI b i then 0 else 1
theorem differ_le {a b : List Int} : ∀ {i : Nat}, differ a b i ≤ i
  | 0 => Nat.le_refl _
  | i + 1 => by have := differ_le (a := a) (b := b) (i := i); simp only [differ]; split <;> omega
theorem ok47 : codeOk Try.f47.ntmps (bodyOf Try.f47) = true := by kernel_rfl
theorem differ47 {h : Hp} {v w : Value} {xs ys : List Int} (hx : SlOk h v 1 xs.length (xs.map I)) (hy : SlOk h w 1 ys.length (ys.map I)) (hl : xs.length ≤ ys.length) (hb : xs.length ≤ 1000000) :
    CallX Try.prog 47 #[v, w] h (I (differ xs ys xs.length)) h := by
  refine run_flat Tok hm Try.func47 (by kernel_rfl) (by kernel_rfl) ok47 (Nat.le_of_ble_eq_true rfl) ?_
  repeat (first
    | with_reducible refine draw_enter ?_
    | with_reducible exact rok_nil
    | ((with_reducible refine rok_cons ?_ ?_); (first | exact Or.inl (by decide +kernel) | exact Or.inr (by simp [bodyOf, Try.f47, hx.len]) | exact Or.inr (fun hlt => by simp [kill_none, Hp.alloc_g, Nat.ne_of_lt hlt])))
    | with_reducible refine rok_and ?_ ?_
    | ((with_reducible refine eok_cons ?_ ?_); (first | exact Or.inl (by decide +kernel) | exact Or.inr (by simp [bodyOf, Try.f47, hx.len]) | exact Or.inr (fun hlt => by simp [kill_none, Hp.alloc_g, Nat.ne_of_lt hlt])))
    | with_reducible refine eok_and ?_ ?_
    | simp -implicitDefEqProofs [bodyOf, Try.f47, hx.len])
  refine run_for Tok hm (by kernel_rfl) [5, 6, 7, 8, 9, 10, 11, 12, 13, 14, 15, 16, 17, 18, 19, 20, 21, 22, 23] (by kernel_rfl) h.n xs.length (fun i f h1 => f 6 = I i ∧ f 5 = I (differ xs ys i)) ?_ ?_ ?_
  · simp [differ]
  · rintro i f h1 hi ⟨h6, h5⟩ fr hu
    have hxx := hx.grow hu
    have hyy := hy.grow hu
    have hi2 : i < ys.length := by omega
    have r1 := hxx.ref (by omega)
    have r2 := hyy.ref (by omega)
    have l1 := ld_int hxx hi
    have l2 := ld_int hyy hi2
    have v1 := hxx.vr
    have v2 := hyy.vr
    have hw := wrap_succ hi hb
    have hd := differ_le (a := xs) (b := ys) (i := i)
    have hww : IntKind.i64.wrap ((differ xs ys i : Int) + 1) = (differ xs ys i : Int) + 1 := IntWalk.i64_in _ (by omega)
    by_cases e : gI xs i = gI ys i
    · have hs : differ xs ys (i + 1) = differ xs ys i := by simp [differ, e]
      repeat (first
        | with_reducible refine draw_enter ?_
        | with_reducible exact rok_nil
        | ((with_reducible refine rok_cons ?_ ?_); (first | exact Or.inl (by decide +kernel) | exact Or.inr (by simp [h6, h5, fr, hx.len, r1, r2, l1, l2, hi, hi2, v1, v2, hw, e, hs]) | exact Or.inr (fun hlt => by simp [kill_none, Hp.alloc_g, Nat.ne_of_lt hlt])))
        | with_reducible refine rok_and ?_ ?_
        | ((with_reducible refine eok_cons ?_ ?_); (first | exact Or.inl (by decide +kernel) | exact Or.inr (by simp [h6, h5, fr, hx.len, r1, r2, l1, l2, hi, hi2, v1, v2, hw, e, hs]) | exact Or.inr (fun hlt => by simp [kill_none, Hp.alloc_g, Nat.ne_of_lt hlt])))
        | with_reducible refine eok_and ?_ ?_
        | simp -implicitDefEqProofs [h6, h5, fr, hx.len, r1, r2, l1, l2, hi, hi2, v1, v2, hw, e, hs])
    · have hs : differ xs ys (i + 1) = differ xs ys i + 1 := by simp [differ, e]
      repeat (first
        | with_reducible refine draw_enter ?_
        | with_reducible exact rok_nil
        | ((with_reducible refine rok_cons ?_ ?_); (first | exact Or.inl (by decide +kernel) | exact Or.inr (by simp [h6, h5, fr, hx.len, r1, r2, l1, l2, hi, hi2, v1, v2, hw, hww, e, hs]) | exact Or.inr (fun hlt => by simp [kill_none, Hp.alloc_g, Nat.ne_of_lt hlt])))
        | with_reducible refine rok_and ?_ ?_
        | ((with_reducible refine eok_cons ?_ ?_); (first | exact Or.inl (by decide +kernel) | exact Or.inr (by simp [h6, h5, fr, hx.len, r1, r2, l1, l2, hi, hi2, v1, v2, hw, hww, e, hs]) | exact Or.inr (fun hlt => by simp [kill_none, Hp.alloc_g, Nat.ne_of_lt hlt])))
        | with_reducible refine eok_and ?_ ?_
        | simp -implicitDefEqProofs [h6, h5, fr, hx.len, r1, r2, l1, l2, hi, hi2, v1, v2, hw, hww, e, hs])
  · rintro f h1 ⟨h6, h5⟩ fr hu
    have hg : Grow h h1 := hu
    repeat (first
      | with_reducible refine draw_enter ?_
      | with_reducible exact rok_nil
      | ((with_reducible refine rok_cons ?_ ?_); (first | exact Or.inl (by decide +kernel) | exact Or.inr (by simp [h6, h5, fr, hx.len, hg]) | exact Or.inr (fun hlt => by simp [kill_none, Hp.alloc_g, Nat.ne_of_lt hlt])))
      | with_reducible refine rok_and ?_ ?_
      | ((with_reducible refine eok_cons ?_ ?_); (first | exact Or.inl (by decide +kernel) | exact Or.inr (by simp [h6, h5, fr, hx.len, hg]) | exact Or.inr (fun hlt => by simp [kill_none, Hp.alloc_g, Nat.ne_of_lt hlt])))
      | with_reducible refine eok_and ?_ ?_
      | simp -implicitDefEqProofs [h6, h5, fr, hx.len, hg])
def useAt (s : Store) (p : List Int) (kind item : Int) (i : Nat) : Bool := decide ((gL s i).kind = kind) && decide (gI p i = item)
def usesI (s : Store) (p : List Int) (kind item : Int) : Bool := (List.range p.length).any (useAt s p kind item)
theorem ok83 : codeOk Try.f83.ntmps (bodyOf Try.f83) = true := by kernel_rfl
theorem uses83 {h : Hp} {kv lv pv : Value} {s : Store} {p : List Int} (a : StoreAt h kv lv s) (sp : SlOk h pv 1 p.length (p.map I)) (hl : p.length ≤ s.loans.length) (hb : p.length ≤ 1000000) (kind item : Int) :
    CallX Try.prog 83 #[.agg #[kv, lv], pv, I kind, I item] h (.bool (usesI s p kind item)) h := by
  refine run_flat Tok hm Try.func83 (by kernel_rfl) (by kernel_rfl) ok83 (Nat.le_of_ble_eq_true rfl) ?_
  repeat (first
    | with_reducible refine draw_enter ?_
    | with_reducible exact rok_nil
    | ((with_reducible refine rok_cons ?_ ?_); (first | exact Or.inl (by decide +kernel) | exact Or.inr (by simp [bodyOf, Try.f83]) | exact Or.inr (fun hlt => by simp [kill_none, Hp.alloc_g, Nat.ne_of_lt hlt])))
    | with_reducible refine rok_and ?_ ?_
    | ((with_reducible refine eok_cons ?_ ?_); (first | exact Or.inl (by decide +kernel) | exact Or.inr (by simp [bodyOf, Try.f83]) | exact Or.inr (fun hlt => by simp [kill_none, Hp.alloc_g, Nat.ne_of_lt hlt])))
    | with_reducible refine eok_and ?_ ?_
    | simp -implicitDefEqProofs [bodyOf, Try.f83])
  refine run_for Tok hm (by kernel_rfl) [8, 9, 10, 11, 12, 13, 14, 15, 16, 17, 18, 19, 20, 21, 22, 23, 24, 25, 26, 27, 28, 29, 30, 31] (by kernel_rfl) (h.n + 1) p.length (fun i f h1 => f 9 = I i ∧ ∀ j, j < i → useAt s p kind item j = false) ?_ ?_ ?_
  · exact ⟨by simp, fun j hj => absurd hj (by omega)⟩
  · rintro i f h1 hi ⟨h9, hall⟩ fr hu
    have hg : Grow h h1 := hu.grow (by simp) (by simp)
    have hb1 : h1.g h.n = .row true 2 [kv, lv] := by rw [hu.2 _ (by simp)]; simp
    have hn0 : h.n < h1.n := by have := hu.1; simp at this; omega
    have hn1 : h.n + 1 ≤ h1.n := by omega
    have a1 := a.grow hg
    have sp1 := sp.grow hg
    have hil : i < s.loans.length := by omega
    have r1 := a1.loans.ref (by omega)
    have r2 := sp1.ref (by omega)
    have l1 := ld_loanK a1 hil
    have l2 := ld_int sp1 hi
    have hw := wrap_succ hi hb
    by_cases e1 : (gL s i).kind = kind
    · by_cases e2 : gI p i = item
      · have hr : usesI s p kind item = true := any_range hi (by simp [useAt, e1, e2])
        repeat (first
          | with_reducible refine draw_enter ?_
          | with_reducible exact rok_nil
          | ((with_reducible refine rok_cons ?_ ?_); (first | exact Or.inl (by decide +kernel) | exact Or.inr (by simp [h9, fr, sp.len, hi, hb1, hn0, r1, l1, hil, r2, l2, e1, e2, hr, hg]) | exact Or.inr (fun hlt => by simp [kill_none, Hp.alloc_g, Nat.ne_of_lt hlt])))
          | with_reducible refine rok_and ?_ ?_
          | ((with_reducible refine eok_cons ?_ ?_); (first | exact Or.inl (by decide +kernel) | exact Or.inr (by simp [h9, fr, sp.len, hi, hb1, hn0, r1, l1, hil, r2, l2, e1, e2, hr, hg]) | exact Or.inr (fun hlt => by simp [kill_none, Hp.alloc_g, Nat.ne_of_lt hlt])))
          | with_reducible refine eok_and ?_ ?_
          | simp -implicitDefEqProofs [h9, fr, sp.len, hi, hb1, hn0, r1, l1, hil, r2, l2, e1, e2, hr, hg])
      · have hf : useAt s p kind item i = false := by simp [useAt, e2]
        repeat (first
          | with_reducible refine draw_enter ?_
          | with_reducible exact rok_nil
          | ((with_reducible refine rok_cons ?_ ?_); (first | exact Or.inl (by decide +kernel) | exact Or.inr (by simp [h9, fr, sp.len, hi, hb1, hn0, r1, l1, hil, r2, l2, e1, e2, hw]) | exact Or.inr (fun hlt => by simp [kill_none, Hp.alloc_g, Nat.ne_of_lt hlt])))
          | with_reducible refine rok_and ?_ ?_
          | ((with_reducible refine eok_cons ?_ ?_); (first | exact Or.inl (by decide +kernel) | exact Or.inr (by simp [h9, fr, sp.len, hi, hb1, hn0, r1, l1, hil, r2, l2, e1, e2, hw]) | exact Or.inr (fun hlt => by simp [kill_none, Hp.alloc_g, Nat.ne_of_lt hlt])))
          | with_reducible refine eok_and ?_ ?_
          | simp -implicitDefEqProofs [h9, fr, sp.len, hi, hb1, hn0, r1, l1, hil, r2, l2, e1, e2, hw])
        exact all_succ hall hf
    · have hf : useAt s p kind item i = false := by simp [useAt, e1]
      repeat (first
        | with_reducible refine draw_enter ?_
        | with_reducible exact rok_nil
        | ((with_reducible refine rok_cons ?_ ?_); (first | exact Or.inl (by decide +kernel) | exact Or.inr (by simp [h9, fr, sp.len, hi, hb1, hn0, r1, l1, hil, e1, hw]) | exact Or.inr (fun hlt => by simp [kill_none, Hp.alloc_g, Nat.ne_of_lt hlt])))
        | with_reducible refine rok_and ?_ ?_
        | ((with_reducible refine eok_cons ?_ ?_); (first | exact Or.inl (by decide +kernel) | exact Or.inr (by simp [h9, fr, sp.len, hi, hb1, hn0, r1, l1, hil, e1, hw]) | exact Or.inr (fun hlt => by simp [kill_none, Hp.alloc_g, Nat.ne_of_lt hlt])))
        | with_reducible refine eok_and ?_ ?_
        | simp -implicitDefEqProofs [h9, fr, sp.len, hi, hb1, hn0, r1, l1, hil, e1, hw])
      exact all_succ hall hf
  · rintro f h1 ⟨h9, hall⟩ fr hu
    have hg : Grow h h1 := hu.grow (by simp) (by simp)
    have hr : usesI s p kind item = false := any_range_none hall
    repeat (first
      | with_reducible refine draw_enter ?_
      | with_reducible exact rok_nil
      | ((with_reducible refine rok_cons ?_ ?_); (first | exact Or.inl (by decide +kernel) | exact Or.inr (by simp [h9, fr, sp.len, hr, hg]) | exact Or.inr (fun hlt => by simp [kill_none, Hp.alloc_g, Nat.ne_of_lt hlt])))
      | with_reducible refine rok_and ?_ ?_
      | ((with_reducible refine eok_cons ?_ ?_); (first | exact Or.inl (by decide +kernel) | exact Or.inr (by simp [h9, fr, sp.len, hr, hg]) | exact Or.inr (fun hlt => by simp [kill_none, Hp.alloc_g, Nat.ne_of_lt hlt])))
      | with_reducible refine eok_and ?_ ?_
      | simp -implicitDefEqProofs [h9, fr, sp.len, hr, hg])
theorem ok46 : codeOk Try.f46.ntmps (bodyOf Try.f46) = true := by kernel_rfl
theorem uses46 {h : Hp} {kv lv pv : Value} {s : Store} {p : List Int} (a : StoreAt h kv lv s) (sp : SlOk h pv 1 p.length (p.map I)) (hl : p.length ≤ s.loans.length) (hb : p.length ≤ 1000000) (kind item : Int) :
    CallX Try.prog 46 #[.agg #[kv, lv], pv, .agg #[I kind, I item]] h (.bool (usesI s p kind item)) h := by
  refine run_flat Tok hm Try.func46 (by kernel_rfl) (by kernel_rfl) ok46 (Nat.le_of_ble_eq_true rfl) ?_
  repeat (first
    | with_reducible refine call_step (uses83 (a.grow (by simp)) (sp.grow (by simp)) hl hb _ _) ?_
    | with_reducible refine draw_enter ?_
    | with_reducible refine q_call (uses83 (a.grow (by simp)) (sp.grow (by simp)) hl hb _ _) ROk.refl ?_
    | with_reducible exact rok_nil
    | ((with_reducible refine rok_cons ?_ ?_); (first | exact Or.inl (by decide +kernel) | exact Or.inr (by simp [bodyOf, Try.f46]) | exact Or.inr (fun hlt => by simp [kill_none, Hp.alloc_g, Nat.ne_of_lt hlt])))
    | with_reducible refine rok_and ?_ ?_
    | ((with_reducible refine eok_cons ?_ ?_); (first | exact Or.inl (by decide +kernel) | exact Or.inr (by simp [bodyOf, Try.f46]) | exact Or.inr (fun hlt => by simp [kill_none, Hp.alloc_g, Nat.ne_of_lt hlt])))
    | with_reducible refine eok_and ?_ ?_
    | simp -implicitDefEqProofs [bodyOf, Try.f46])
end Go.Proofs
