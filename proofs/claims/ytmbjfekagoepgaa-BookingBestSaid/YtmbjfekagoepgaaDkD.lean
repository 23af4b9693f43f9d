/- Part of the proofs of the laws (see the last text of a claim): contracts of functions, and what they are shown with. -/
import Derived.Test.YtmbjfekagoepgaaDkC
import Derived.Test.YtmbjfekagoepgaaCkZ
import Derived.Test.YtmbjfekagoepgaaFwCv
set_option linter.unusedSimpArgs false
set_option linter.unusedVariables false
open Go Go.Fw
namespace Go.Proofs
attribute [local irreducible] Run RunOps RunDraw pop condK guardK guardKD resK drawK RunD dK Fw.gK
set_option maxRecDepth 4000
theorem shl_nat {n : Nat} (hn : n ≤ 12) : shl64 1 n = ((2 ^ n : Nat) : Int) := by
  have : ∀ n : Nat, n ≤ 12 → shl64 1 n = ((2 ^ n : Nat) : Int) := by decide +kernel
  exact this n hn
theorem ok75 : codeOk Try.f75.ntmps (bodyOf Try.f75) = true := by kernel_rfl
theorem not75 (w : Int) (h : Hp) : CallX Try.prog 75 #[I w] h (.bool (!within w 0 100000)) h := by
  refine run_flat Tok hm Try.func75 (by kernel_rfl) (by kernel_rfl) ok75 (Nat.le_of_ble_eq_true rfl) ?_
  repeat (first
    | with_reducible refine call_step (within65 _ _ _ _) ?_
    | with_reducible refine draw_enter ?_
    | with_reducible refine q_call (within65 _ _ _ _) ROk.refl ?_
    | with_reducible exact rok_nil
    | ((with_reducible refine rok_cons ?_ ?_); (first | exact Or.inl (by decide +kernel) | exact Or.inr (by simp [bodyOf, Try.f75]) | exact Or.inr (fun hlt => by simp [kill_none, Hp.alloc_g, Nat.ne_of_lt hlt])))
    | with_reducible refine rok_and ?_ ?_
    | ((with_reducible refine eok_cons ?_ ?_); (first | exact Or.inl (by decide +kernel) | exact Or.inr (by simp [bodyOf, Try.f75]) | exact Or.inr (fun hlt => by simp [kill_none, Hp.alloc_g, Nat.ne_of_lt hlt])))
    | with_reducible refine eok_and ?_ ?_
    | simp -implicitDefEqProofs [bodyOf, Try.f75])
theorem ok79 : codeOk Try.f79.ntmps (bodyOf Try.f79) = true := by kernel_rfl
theorem bit79 {h : Hp} {p : Nat} {B : Int} (hp : h.g p = .row true 1 [I B]) (hl : p < h.n) (i : Nat) : CallX Try.prog 79 #[I i, .pointer (some ⟨p, 0, none⟩)] h (.bool (bitB B i)) h := by
  refine run_flat Tok hm Try.func79 (by kernel_rfl) (by kernel_rfl) ok79 (Nat.le_of_ble_eq_true rfl) ?_
  repeat (first
    | with_reducible refine draw_enter ?_
    | with_reducible exact rok_nil
    | ((with_reducible refine rok_cons ?_ ?_); (first | exact Or.inl (by decide +kernel) | exact Or.inr (by simp [bodyOf, Try.f79, hp, hl, bitB]) | exact Or.inr (fun hlt => by simp [kill_none, Hp.alloc_g, Nat.ne_of_lt hlt])))
    | with_reducible refine rok_and ?_ ?_
    | ((with_reducible refine eok_cons ?_ ?_); (first | exact Or.inl (by decide +kernel) | exact Or.inr (by simp [bodyOf, Try.f79, hp, hl, bitB]) | exact Or.inr (fun hlt => by simp [kill_none, Hp.alloc_g, Nat.ne_of_lt hlt])))
    | with_reducible refine eok_and ?_ ?_
    | simp -implicitDefEqProofs [bodyOf, Try.f79, hp, hl, bitB])
theorem ok76 : codeOk Try.f76.ntmps (bodyOf Try.f76) = true := by kernel_rfl
theorem members76 {h : Hp} (B n : Nat) (hn : n ≤ 64) : ∃ v h', CallX Try.prog 76 #[I B, I n] h v h' ∧ Grow h h' ∧ Acc h.n h' 1 v (memL (nbit B) n).length ((memL (nbit B) n).map I) := by
  refine run_any Tok hm Try.func76 (by kernel_rfl) (by kernel_rfl) ok76 (Nat.le_of_ble_eq_true rfl) ?_
  repeat (first
    | with_reducible refine draw_enter ?_
    | with_reducible exact rok_nil
    | ((with_reducible refine rok_cons ?_ ?_); (first | exact Or.inl (by decide +kernel) | exact Or.inr (by simp [bodyOf, Try.f76]) | exact Or.inr (fun hlt => by simp [kill_none, Hp.alloc_g, Nat.ne_of_lt hlt])))
    | with_reducible refine rok_and ?_ ?_
    | ((with_reducible refine eok_cons ?_ ?_); (first | exact Or.inl (by decide +kernel) | exact Or.inr (by simp [bodyOf, Try.f76]) | exact Or.inr (fun hlt => by simp [kill_none, Hp.alloc_g, Nat.ne_of_lt hlt])))
    | with_reducible refine eok_and ?_ ?_
    | simp -implicitDefEqProofs [bodyOf, Try.f76])
  refine run_for Tok hm (by kernel_rfl) [4, 5, 7, 8, 9, 10, 11, 12, 13, 14, 15, 16, 17, 18, 19] (by kernel_rfl) h.n n (fun i f h1 => f 7 = I i ∧ Acc h.n h1 1 (f 4) (cntK (nbit B) i) ((memL (nbit B) i).map I)) ?_ ?_ ?_
  · exact ⟨by simp, by simpa [cntK, memL] using Acc.nil⟩
  · rintro i f h1 hi ⟨h7, hacc⟩ fr hu
    have hwi := wrap_succ hi (by omega)
    have hle := cntK_le (kp := nbit B) (i := i)
    have hc1 : cntK (nbit B) i + 1 ≤ 1000000 := by omega
    have hn0 : ¬ (i : Int) < 0 := by omega
    cases q : nbit B i with
    | false =>
      have e1 : cntK (nbit B) (i + 1) = cntK (nbit B) i := by simp [cntK, q]
      have e2 : memL (nbit B) (i + 1) = memL (nbit B) i := by simp [memL, q]
      have q' : ¬ and64 (shr64 B i) 1 = 1 := by simpa [nbit, bitB] using q
      repeat (first
        | with_reducible refine draw_enter ?_
        | with_reducible exact rok_nil
        | ((with_reducible refine rok_cons ?_ ?_); (first | exact Or.inl (by decide +kernel) | exact Or.inr (by simp [h7, fr, hi, hwi, hn0, q']) | exact Or.inr (fun hlt => by simp [kill_none, Hp.alloc_g, Nat.ne_of_lt hlt])))
        | with_reducible refine rok_and ?_ ?_
        | ((with_reducible refine eok_cons ?_ ?_); (first | exact Or.inl (by decide +kernel) | exact Or.inr (by simp [h7, fr, hi, hwi, hn0, q']) | exact Or.inr (fun hlt => by simp [kill_none, Hp.alloc_g, Nat.ne_of_lt hlt])))
        | with_reducible refine eok_and ?_ ?_
        | simp -implicitDefEqProofs [h7, fr, hi, hwi, hn0, q'])
      rw [e1, e2]
      exact hacc
    | true =>
      have e1 : cntK (nbit B) (i + 1) = cntK (nbit B) i + 1 := by simp [cntK, q]
      have e2 : memL (nbit B) (i + 1) = memL (nbit B) i ++ [(i : Int)] := by simp [memL, q]
      have q' : and64 (shr64 B i) 1 = 1 := by simpa [nbit, bitB] using q
      repeat (first
        | with_reducible refine draw_enter ?_
        | with_reducible exact rok_nil
        | ((with_reducible refine rok_cons ?_ ?_); (first | exact Or.inl (by decide +kernel) | exact Or.inr (by simp [h7, fr, hi, hwi, hn0, q', hacc.app, hc1]) | exact Or.inr (fun hlt => by simp [kill_none, Hp.alloc_g, Nat.ne_of_lt hlt])))
        | with_reducible refine rok_and ?_ ?_
        | ((with_reducible refine eok_cons ?_ ?_); (first | exact Or.inl (by decide +kernel) | exact Or.inr (by simp [h7, fr, hi, hwi, hn0, q', hacc.app, hc1]) | exact Or.inr (fun hlt => by simp [kill_none, Hp.alloc_g, Nat.ne_of_lt hlt])))
        | with_reducible refine eok_and ?_ ?_
        | simp -implicitDefEqProofs [h7, fr, hi, hwi, hn0, q', hacc.app, hc1])
      refine ⟨Upto.alloc (by have := hu.1; simp; omega) (hacc.kill (Upto.alloc hu.1 Upto.refl)), ?_⟩
      rw [e1, e2, List.map_append]
      exact Acc.own (i := h1.n + 1) (by have := hu.1; omega) (by simp) (by simp) (by simp [memL_len])
  · rintro f h1 ⟨h7, hacc⟩ fr hu
    repeat (first
      | with_reducible refine draw_enter ?_
      | with_reducible exact rok_nil
      | ((with_reducible refine rok_cons ?_ ?_); (first | exact Or.inl (by decide +kernel) | exact Or.inr (by simp [h7, fr]) | exact Or.inr (fun hlt => by simp [kill_none, Hp.alloc_g, Nat.ne_of_lt hlt])))
      | with_reducible refine rok_and ?_ ?_
      | ((with_reducible refine eok_cons ?_ ?_); (first | exact Or.inl (by decide +kernel) | exact Or.inr (by simp [h7, fr]) | exact Or.inr (fun hlt => by simp [kill_none, Hp.alloc_g, Nat.ne_of_lt hlt])))
      | with_reducible refine eok_and ?_ ?_
      | simp -implicitDefEqProofs [h7, fr])
    exact ⟨hu.grow (by simp) (by simp), by rw [memL_len]; exact hacc⟩
theorem ok102 : codeOk Try.f102.ntmps (bodyOf Try.f102) = true := by kernel_rfl
theorem nan102 (x : Int) (h : Hp) : CallX Try.prog 102 #[I x] h (.bool false) h := by
  refine run_flat Tok hm Try.func102 (by kernel_rfl) (by kernel_rfl) ok102 (Nat.le_of_ble_eq_true rfl) ?_
  repeat (first
    | with_reducible refine draw_enter ?_
    | with_reducible exact rok_nil
    | ((with_reducible refine rok_cons ?_ ?_); (first | exact Or.inl (by decide +kernel) | exact Or.inr (by simp [bodyOf, Try.f102]) | exact Or.inr (fun hlt => by simp [kill_none, Hp.alloc_g, Nat.ne_of_lt hlt])))
    | with_reducible refine rok_and ?_ ?_
    | ((with_reducible refine eok_cons ?_ ?_); (first | exact Or.inl (by decide +kernel) | exact Or.inr (by simp [bodyOf, Try.f102]) | exact Or.inr (fun hlt => by simp [kill_none, Hp.alloc_g, Nat.ne_of_lt hlt])))
    | with_reducible refine eok_and ?_ ?_
    | simp -implicitDefEqProofs [bodyOf, Try.f102])
def cmpI (x y : Int) : Int := if x < y then -1 else if y < x then 1 else 0
theorem ok96 : codeOk Try.f96.ntmps (bodyOf Try.f96) = true := by kernel_rfl
theorem cmp96 (x y : Int) (h : Hp) : CallX Try.prog 96 #[I x, I y] h (I (cmpI x y)) h := by
  refine run_flat Tok hm Try.func96 (by kernel_rfl) (by kernel_rfl) ok96 (Nat.le_of_ble_eq_true rfl) ?_
  by_cases q1 : x < y <;> by_cases q2 : y < x
  all_goals
    repeat (first
      | with_reducible refine call_step (nan102 _ _) ?_
      | with_reducible refine draw_enter ?_
      | with_reducible refine q_call (nan102 _ _) ROk.refl ?_
      | with_reducible exact rok_nil
      | ((with_reducible refine rok_cons ?_ ?_); (first | exact Or.inl (by decide +kernel) | exact Or.inr (by simp [bodyOf, Try.f96, q1, q2, cmpI]) | exact Or.inr (fun hlt => by simp [kill_none, Hp.alloc_g, Nat.ne_of_lt hlt])))
      | with_reducible refine rok_and ?_ ?_
      | ((with_reducible refine eok_cons ?_ ?_); (first | exact Or.inl (by decide +kernel) | exact Or.inr (by simp [bodyOf, Try.f96, q1, q2, cmpI]) | exact Or.inr (fun hlt => by simp [kill_none, Hp.alloc_g, Nat.ne_of_lt hlt])))
      | with_reducible refine eok_and ?_ ?_
      | simp -implicitDefEqProofs [bodyOf, Try.f96, q1, q2, cmpI])
def cmpL (a b : List Int) : Int := match diffAt a b with | some i => if gI a i < gI b i then -1 else 1 | none => 0
theorem cmpL_lex {a b : List Int} : decide (cmpL a b < 0) = lexB a b := by
  unfold cmpL lexB
  cases diffAt a b with
  | none => rfl
  | some i =>
    by_cases q : gI a i < gI b i <;> simp [q]
theorem ok77 : codeOk Try.f77.ntmps (bodyOf Try.f77) = true := by kernel_rfl
theorem compare77 {h : Hp} {v w : Value} {xs ys : List Int} (hx : SlOk h v 1 xs.length (xs.map I)) (hy : SlOk h w 1 ys.length (ys.map I)) (hl : xs.length = ys.length) (hb : xs.length ≤ 1000000) : CallX Try.prog 77 #[v, w] h (I (cmpL xs ys)) h := by
  refine run_flat Tok hm Try.func77 (by kernel_rfl) (by kernel_rfl) ok77 (Nat.le_of_ble_eq_true rfl) ?_
  repeat (first
    | with_reducible refine draw_enter ?_
    | with_reducible exact rok_nil
    | ((with_reducible refine rok_cons ?_ ?_); (first | exact Or.inl (by decide +kernel) | exact Or.inr (by simp [bodyOf, Try.f77, hx.len, hy.len]) | exact Or.inr (fun hlt => by simp [kill_none, Hp.alloc_g, Nat.ne_of_lt hlt])))
    | with_reducible refine rok_and ?_ ?_
    | ((with_reducible refine eok_cons ?_ ?_); (first | exact Or.inl (by decide +kernel) | exact Or.inr (by simp [bodyOf, Try.f77, hx.len, hy.len]) | exact Or.inr (fun hlt => by simp [kill_none, Hp.alloc_g, Nat.ne_of_lt hlt])))
    | with_reducible refine eok_and ?_ ?_
    | simp -implicitDefEqProofs [bodyOf, Try.f77, hx.len, hy.len])
  refine run_for Tok hm (by kernel_rfl) [4, 5, 6, 7, 8, 11, 12, 13, 14, 15, 16, 17, 18, 19, 20, 21, 22, 23, 24, 25, 26, 27, 28, 29, 30] (by kernel_rfl) h.n xs.length (fun i f h1 => f 11 = I i ∧ ∀ j, j < i → gI xs j = gI ys j) ?_ ?_ ?_
  · exact ⟨by simp, fun j hj => absurd hj (by omega)⟩
  · rintro i f h1 hi ⟨h11, hall⟩ fr hu
    have hg : Grow h h1 := hu
    have x1 := hx.grow hu
    have y1 := hy.grow hu
    have hiy : i < ys.length := by omega
    have rx := x1.ref (by omega)
    have ry := y1.ref (by omega)
    have ltx := x1.lt (by omega)
    have lty := y1.lt (by omega)
    have lx := ld_int x1 hi
    have ly := ld_int y1 hiy
    have hwi := wrap_succ hi hb
    have hge : ¬ ys.length ≤ i := by omega
    by_cases d : gI xs i = gI ys i
    · have hc : cmpI (gI xs i) (gI ys i) = 0 := by simp [cmpI, d]
      rw [d] at hc
      repeat (first
        | with_reducible refine call_step (cmp96 _ _ _) ?_
        | with_reducible refine draw_enter ?_
        | with_reducible refine q_call (cmp96 _ _ _) ROk.refl ?_
        | with_reducible exact rok_nil
        | ((with_reducible refine rok_cons ?_ ?_); (first | exact Or.inl (by decide +kernel) | exact Or.inr (by simp [h11, hg, fr, hx.len, hy.len, hi, hiy, hge, rx, ry, ltx, lty, lx, ly, d, hwi, hc]) | exact Or.inr (fun hlt => by simp [kill_none, Hp.alloc_g, Nat.ne_of_lt hlt])))
        | with_reducible refine rok_and ?_ ?_
        | ((with_reducible refine eok_cons ?_ ?_); (first | exact Or.inl (by decide +kernel) | exact Or.inr (by simp [h11, hg, fr, hx.len, hy.len, hi, hiy, hge, rx, ry, ltx, lty, lx, ly, d, hwi, hc]) | exact Or.inr (fun hlt => by simp [kill_none, Hp.alloc_g, Nat.ne_of_lt hlt])))
        | with_reducible refine eok_and ?_ ?_
        | simp -implicitDefEqProofs [h11, hg, fr, hx.len, hy.len, hi, hiy, hge, rx, ry, ltx, lty, lx, ly, d, hwi, hc])
      exact all_succ hall d
    · have hd := diff_hit hi hall d
      by_cases q : gI xs i < gI ys i
      · have hc : cmpI (gI xs i) (gI ys i) = -1 := by simp [cmpI, q]
        have hr : cmpL xs ys = -1 := by simp [cmpL, hd, q]
        repeat (first
          | with_reducible refine call_step (cmp96 _ _ _) ?_
          | with_reducible refine draw_enter ?_
          | with_reducible refine q_call (cmp96 _ _ _) ROk.refl ?_
          | with_reducible exact rok_nil
          | ((with_reducible refine rok_cons ?_ ?_); (first | exact Or.inl (by decide +kernel) | exact Or.inr (by simp [h11, hg, fr, hx.len, hy.len, hi, hiy, hge, rx, ry, ltx, lty, lx, ly, hwi, hc, hr]) | exact Or.inr (fun hlt => by simp [kill_none, Hp.alloc_g, Nat.ne_of_lt hlt])))
          | with_reducible refine rok_and ?_ ?_
          | ((with_reducible refine eok_cons ?_ ?_); (first | exact Or.inl (by decide +kernel) | exact Or.inr (by simp [h11, hg, fr, hx.len, hy.len, hi, hiy, hge, rx, ry, ltx, lty, lx, ly, hwi, hc, hr]) | exact Or.inr (fun hlt => by simp [kill_none, Hp.alloc_g, Nat.ne_of_lt hlt])))
          | with_reducible refine eok_and ?_ ?_
          | simp -implicitDefEqProofs [h11, hg, fr, hx.len, hy.len, hi, hiy, hge, rx, ry, ltx, lty, lx, ly, hwi, hc, hr])
      · have q2 : gI ys i < gI xs i := by omega
        have hc : cmpI (gI xs i) (gI ys i) = 1 := by simp [cmpI, q, q2]
        have hr : cmpL xs ys = 1 := by simp [cmpL, hd, q]
        repeat (first
          | with_reducible refine call_step (cmp96 _ _ _) ?_
          | with_reducible refine draw_enter ?_
          | with_reducible refine q_call (cmp96 _ _ _) ROk.refl ?_
          | with_reducible exact rok_nil
          | ((with_reducible refine rok_cons ?_ ?_); (first | exact Or.inl (by decide +kernel) | exact Or.inr (by simp [h11, hg, fr, hx.len, hy.len, hi, hiy, hge, rx, ry, ltx, lty, lx, ly, hwi, hc, hr]) | exact Or.inr (fun hlt => by simp [kill_none, Hp.alloc_g, Nat.ne_of_lt hlt])))
          | with_reducible refine rok_and ?_ ?_
          | ((with_reducible refine eok_cons ?_ ?_); (first | exact Or.inl (by decide +kernel) | exact Or.inr (by simp [h11, hg, fr, hx.len, hy.len, hi, hiy, hge, rx, ry, ltx, lty, lx, ly, hwi, hc, hr]) | exact Or.inr (fun hlt => by simp [kill_none, Hp.alloc_g, Nat.ne_of_lt hlt])))
          | with_reducible refine eok_and ?_ ?_
          | simp -implicitDefEqProofs [h11, hg, fr, hx.len, hy.len, hi, hiy, hge, rx, ry, ltx, lty, lx, ly, hwi, hc, hr])
  · rintro f h1 ⟨h11, hall⟩ fr hu
    have hg : Grow h h1 := hu
    have hr : cmpL xs ys = 0 := by simp [cmpL, diff_miss hall]
    have hnl : ¬ xs.length < ys.length := by omega
    repeat (first
      | with_reducible refine draw_enter ?_
      | with_reducible exact rok_nil
      | ((with_reducible refine rok_cons ?_ ?_); (first | exact Or.inl (by decide +kernel) | exact Or.inr (by simp [h11, hg, fr, hx.len, hy.len, hr, hnl]) | exact Or.inr (fun hlt => by simp [kill_none, Hp.alloc_g, Nat.ne_of_lt hlt])))
      | with_reducible refine rok_and ?_ ?_
      | ((with_reducible refine eok_cons ?_ ?_); (first | exact Or.inl (by decide +kernel) | exact Or.inr (by simp [h11, hg, fr, hx.len, hy.len, hr, hnl]) | exact Or.inr (fun hlt => by simp [kill_none, Hp.alloc_g, Nat.ne_of_lt hlt])))
      | with_reducible refine eok_and ?_ ?_
      | simp -implicitDefEqProofs [h11, hg, fr, hx.len, hy.len, hr, hnl])
theorem ok81 : codeOk Try.f81.ntmps (bodyOf Try.f81) = true := by kernel_rfl
theorem before81 {h : Hp} {v w : Value} {xs ys : List Int} (hx : SlOk h v 1 xs.length (xs.map I)) (hy : SlOk h w 1 ys.length (ys.map I)) (hb : xs.length ≤ 1000000) : CallX Try.prog 81 #[v, w] h (.bool (beforeB xs ys)) h := by
  refine run_flat Tok hm Try.func81 (by kernel_rfl) (by kernel_rfl) ok81 (Nat.le_of_ble_eq_true rfl) ?_
  by_cases hl : xs.length = ys.length
  case neg =>
    have hr : beforeB xs ys = decide (xs.length < ys.length) := by simp [beforeB, hl]
    repeat (first
      | with_reducible refine draw_enter ?_
      | with_reducible exact rok_nil
      | ((with_reducible refine rok_cons ?_ ?_); (first | exact Or.inl (by decide +kernel) | exact Or.inr (by simp [bodyOf, Try.f81, hx.len, hy.len, hl, hr]) | exact Or.inr (fun hlt => by simp [kill_none, Hp.alloc_g, Nat.ne_of_lt hlt])))
      | with_reducible refine rok_and ?_ ?_
      | ((with_reducible refine eok_cons ?_ ?_); (first | exact Or.inl (by decide +kernel) | exact Or.inr (by simp [bodyOf, Try.f81, hx.len, hy.len, hl, hr]) | exact Or.inr (fun hlt => by simp [kill_none, Hp.alloc_g, Nat.ne_of_lt hlt])))
      | with_reducible refine eok_and ?_ ?_
      | simp -implicitDefEqProofs [bodyOf, Try.f81, hx.len, hy.len, hl, hr])
  have hr : beforeB xs ys = lexB xs ys := by simp [beforeB, hl]
  rw [hr]
  repeat (first
    | with_reducible refine draw_enter ?_
    | with_reducible exact rok_nil
    | ((with_reducible refine rok_cons ?_ ?_); (first | exact Or.inl (by decide +kernel) | exact Or.inr (by simp [bodyOf, Try.f81, hx.len, hy.len, hl]) | exact Or.inr (fun hlt => by simp [kill_none, Hp.alloc_g, Nat.ne_of_lt hlt])))
    | with_reducible refine rok_and ?_ ?_
    | ((with_reducible refine eok_cons ?_ ?_); (first | exact Or.inl (by decide +kernel) | exact Or.inr (by simp [bodyOf, Try.f81, hx.len, hy.len, hl]) | exact Or.inr (fun hlt => by simp [kill_none, Hp.alloc_g, Nat.ne_of_lt hlt])))
    | with_reducible refine eok_and ?_ ?_
    | simp -implicitDefEqProofs [bodyOf, Try.f81, hx.len, hy.len, hl])
  refine run_for Tok hm (by kernel_rfl) [4, 5, 16, 17, 18, 19, 20, 21, 22, 23, 24, 25, 26, 27, 28, 29, 30, 31, 32, 33, 34, 35, 36, 37, 38, 39] (by kernel_rfl) h.n xs.length (fun i f h1 => f 5 = I i ∧ ∀ j, j < i → gI xs j = gI ys j) ?_ ?_ ?_
  · exact ⟨by simp, fun j hj => absurd hj (by omega)⟩
  · rintro i f h1 hi ⟨h5, hall⟩ fr hu
    have hg : Grow h h1 := hu
    have x1 := hx.grow hu
    have y1 := hy.grow hu
    have hiy : i < ys.length := by omega
    have rx := x1.ref (by omega)
    have ry := y1.ref (by omega)
    have ltx := x1.lt (by omega)
    have lty := y1.lt (by omega)
    have lx := ld_int x1 hi
    have ly := ld_int y1 hiy
    have hwi := wrap_succ hi hb
    by_cases d : gI xs i = gI ys i
    ·
      repeat (first
        | with_reducible refine draw_enter ?_
        | with_reducible exact rok_nil
        | ((with_reducible refine rok_cons ?_ ?_); (first | exact Or.inl (by decide +kernel) | exact Or.inr (by simp [h5, hg, fr, hx.len, hy.len, hi, hiy, rx, ry, ltx, lty, lx, ly, d, hwi]) | exact Or.inr (fun hlt => by simp [kill_none, Hp.alloc_g, Nat.ne_of_lt hlt])))
        | with_reducible refine rok_and ?_ ?_
        | ((with_reducible refine eok_cons ?_ ?_); (first | exact Or.inl (by decide +kernel) | exact Or.inr (by simp [h5, hg, fr, hx.len, hy.len, hi, hiy, rx, ry, ltx, lty, lx, ly, d, hwi]) | exact Or.inr (fun hlt => by simp [kill_none, Hp.alloc_g, Nat.ne_of_lt hlt])))
        | with_reducible refine eok_and ?_ ?_
        | simp -implicitDefEqProofs [h5, hg, fr, hx.len, hy.len, hi, hiy, rx, ry, ltx, lty, lx, ly, d, hwi])
      exact all_succ hall d
    · have hd := lex_hit hi hall d
      repeat (first
        | with_reducible refine draw_enter ?_
        | with_reducible exact rok_nil
        | ((with_reducible refine rok_cons ?_ ?_); (first | exact Or.inl (by decide +kernel) | exact Or.inr (by simp [h5, hg, fr, hx.len, hy.len, hi, hiy, rx, ry, ltx, lty, lx, ly, d, hwi, hd]) | exact Or.inr (fun hlt => by simp [kill_none, Hp.alloc_g, Nat.ne_of_lt hlt])))
        | with_reducible refine rok_and ?_ ?_
        | ((with_reducible refine eok_cons ?_ ?_); (first | exact Or.inl (by decide +kernel) | exact Or.inr (by simp [h5, hg, fr, hx.len, hy.len, hi, hiy, rx, ry, ltx, lty, lx, ly, d, hwi, hd]) | exact Or.inr (fun hlt => by simp [kill_none, Hp.alloc_g, Nat.ne_of_lt hlt])))
        | with_reducible refine eok_and ?_ ?_
        | simp -implicitDefEqProofs [h5, hg, fr, hx.len, hy.len, hi, hiy, rx, ry, ltx, lty, lx, ly, d, hwi, hd])
  · rintro f h1 ⟨h5, hall⟩ fr hu
    have hg : Grow h h1 := hu
    have hr : lexB xs ys = false := lex_miss hall
    repeat (first
      | with_reducible refine draw_enter ?_
      | with_reducible exact rok_nil
      | ((with_reducible refine rok_cons ?_ ?_); (first | exact Or.inl (by decide +kernel) | exact Or.inr (by simp [h5, hg, fr, hx.len, hy.len, hr]) | exact Or.inr (fun hlt => by simp [kill_none, Hp.alloc_g, Nat.ne_of_lt hlt])))
      | with_reducible refine rok_and ?_ ?_
      | ((with_reducible refine eok_cons ?_ ?_); (first | exact Or.inl (by decide +kernel) | exact Or.inr (by simp [h5, hg, fr, hx.len, hy.len, hr]) | exact Or.inr (fun hlt => by simp [kill_none, Hp.alloc_g, Nat.ne_of_lt hlt])))
      | with_reducible refine eok_and ?_ ?_
      | simp -implicitDefEqProofs [h5, hg, fr, hx.len, hy.len, hr])
theorem ok78 : codeOk Try.f78.ntmps (bodyOf Try.f78) = true := by kernel_rfl
theorem whole78 {h : Hp} {lv : Value} {l : List Bkg} (bl : BksAt h lv l) (l20 : l.length ≤ 20) (hr : ∀ i, i < l.length → (gB l i).rival = -1 ∨ (0 ≤ (gB l i).rival ∧ (gB l i).rival.toNat < l.length)) (B : Nat) : CallX Try.prog 78 #[lv, I B] h (.bool (wholeB l (nbit B))) h := by
  refine run_flat Tok hm Try.func78 (by kernel_rfl) (by kernel_rfl) ok78 (Nat.le_of_ble_eq_true rfl) ?_
  repeat (first
    | with_reducible refine draw_enter ?_
    | with_reducible exact rok_nil
    | ((with_reducible refine rok_cons ?_ ?_); (first | exact Or.inl (by decide +kernel) | exact Or.inr (by simp [bodyOf, Try.f78, bl.len]) | exact Or.inr (fun hlt => by simp [kill_none, Hp.alloc_g, Nat.ne_of_lt hlt])))
    | with_reducible refine rok_and ?_ ?_
    | ((with_reducible refine eok_cons ?_ ?_); (first | exact Or.inl (by decide +kernel) | exact Or.inr (by simp [bodyOf, Try.f78, bl.len]) | exact Or.inr (fun hlt => by simp [kill_none, Hp.alloc_g, Nat.ne_of_lt hlt])))
    | with_reducible refine eok_and ?_ ?_
    | simp -implicitDefEqProofs [bodyOf, Try.f78, bl.len])
  refine run_for Tok hm (by kernel_rfl) [4, 5, 6, 9, 10, 11, 12, 13, 14, 15, 16, 17, 18, 19, 20, 21, 22, 23, 24, 25, 26, 27, 28, 29, 30, 31, 32] (by kernel_rfl) h.n l.length (fun i f h1 => f 9 = I i ∧ wholeTo l (nbit B) i = true) ?_ ?_ ?_
  · exact ⟨by simp, by simp [wholeTo]⟩
  · rintro i f h1 hi ⟨h9, hall⟩ fr hu
    have hg : Grow h h1 := hu
    have b1 := bl.grow hu
    have r1 := b1.ref (by omega)
    have lt1 := b1.lt (by omega)
    have l1 := ld_bk b1 rfl hi
    have hwi := wrap_succ hi (by omega)
    have hn0 : ¬ (i : Int) < 0 := by omega
    have hs := wholeTo_succ (l := l) (kp := nbit B) (i := i)
    rw [hall, Bool.true_and] at hs
    by_cases q : and64 (shr64 B i) 1 = 1
    case neg =>
      have hs2 : wholeTo l (nbit B) (i + 1) = true := by rw [hs]; simp [lone, nbit, bitB, q]
      repeat (first
        | with_reducible refine draw_enter ?_
        | with_reducible exact rok_nil
        | ((with_reducible refine rok_cons ?_ ?_); (first | exact Or.inl (by decide +kernel) | exact Or.inr (by simp [h9, hg, fr, bl.len, hi, r1, lt1, l1, hwi, hn0, q]) | exact Or.inr (fun hlt => by simp [kill_none, Hp.alloc_g, Nat.ne_of_lt hlt])))
        | with_reducible refine rok_and ?_ ?_
        | ((with_reducible refine eok_cons ?_ ?_); (first | exact Or.inl (by decide +kernel) | exact Or.inr (by simp [h9, hg, fr, bl.len, hi, r1, lt1, l1, hwi, hn0, q]) | exact Or.inr (fun hlt => by simp [kill_none, Hp.alloc_g, Nat.ne_of_lt hlt])))
        | with_reducible refine eok_and ?_ ?_
        | simp -implicitDefEqProofs [h9, hg, fr, bl.len, hi, r1, lt1, l1, hwi, hn0, q])
      exact ⟨Upto.alloc hu.1 Upto.refl, hs2⟩
    have hbi : nbit B i = true := by simp [nbit, bitB, q]
    rcases hr i hi with hv | ⟨hv1, hv2⟩
    · have hs2 : wholeTo l (nbit B) (i + 1) = true := by rw [hs]; simp [lone, hv]
      repeat (first
        | with_reducible refine draw_enter ?_
        | with_reducible exact rok_nil
        | ((with_reducible refine rok_cons ?_ ?_); (first | exact Or.inl (by decide +kernel) | exact Or.inr (by simp [h9, hg, fr, bl.len, hi, r1, lt1, l1, hwi, hn0, q, hv]) | exact Or.inr (fun hlt => by simp [kill_none, Hp.alloc_g, Nat.ne_of_lt hlt])))
        | with_reducible refine rok_and ?_ ?_
        | ((with_reducible refine eok_cons ?_ ?_); (first | exact Or.inl (by decide +kernel) | exact Or.inr (by simp [h9, hg, fr, bl.len, hi, r1, lt1, l1, hwi, hn0, q, hv]) | exact Or.inr (fun hlt => by simp [kill_none, Hp.alloc_g, Nat.ne_of_lt hlt])))
        | with_reducible refine eok_and ?_ ?_
        | simp -implicitDefEqProofs [h9, hg, fr, bl.len, hi, r1, lt1, l1, hwi, hn0, q, hv])
      exact ⟨Upto.alloc hu.1 Upto.refl, hs2⟩
    obtain ⟨k, hk⟩ : ∃ k : Nat, (gB l i).rival = k := ⟨_, (Int.toNat_of_nonneg hv1).symm⟩
    have hk0 : ¬ (k : Int) < 0 := by omega
    have hx : and64 (shr64 B k) 1 = ((B / 2 ^ k % 2 : Nat) : Int) := by rw [shr_nat (by omega), and_one]
    have hx2 : B / 2 ^ k % 2 < 2 := Nat.mod_lt _ (by omega)
    obtain ⟨x, hX⟩ : ∃ x, x = B / 2 ^ k % 2 := ⟨_, rfl⟩
    rw [← hX] at hx hx2
    by_cases q2 : x = 0
    · have hb : nbit B k = false := by simp [nbit, bitB, hx, q2]
      have hs2 : wholeTo l (nbit B) (i + 1) = false := by rw [hs]; simp [lone, hk, hb, hbi]
      have hw2 : wholeB l (nbit B) = false := wholeTo_false hs2 hi
      repeat (first
        | with_reducible refine draw_enter ?_
        | with_reducible exact rok_nil
        | ((with_reducible refine rok_cons ?_ ?_); (first | exact Or.inl (by decide +kernel) | exact Or.inr (by simp [h9, hg, fr, bl.len, hi, r1, lt1, l1, hwi, hn0, q, hk, hk0, hx, q2, hw2]) | exact Or.inr (fun hlt => by simp [kill_none, Hp.alloc_g, Nat.ne_of_lt hlt])))
        | with_reducible refine rok_and ?_ ?_
        | ((with_reducible refine eok_cons ?_ ?_); (first | exact Or.inl (by decide +kernel) | exact Or.inr (by simp [h9, hg, fr, bl.len, hi, r1, lt1, l1, hwi, hn0, q, hk, hk0, hx, q2, hw2]) | exact Or.inr (fun hlt => by simp [kill_none, Hp.alloc_g, Nat.ne_of_lt hlt])))
        | with_reducible refine eok_and ?_ ?_
        | simp -implicitDefEqProofs [h9, hg, fr, bl.len, hi, r1, lt1, l1, hwi, hn0, q, hk, hk0, hx, q2, hw2])
    · have hb : nbit B k = true := by simp only [nbit, bitB, hx, decide_eq_true_eq]; omega
      have hs2 : wholeTo l (nbit B) (i + 1) = true := by rw [hs]; simp [lone, hk, hb]
      repeat (first
        | with_reducible refine draw_enter ?_
        | with_reducible exact rok_nil
        | ((with_reducible refine rok_cons ?_ ?_); (first | exact Or.inl (by decide +kernel) | exact Or.inr (by simp [h9, hg, fr, bl.len, hi, r1, lt1, l1, hwi, hn0, q, hk, hk0, hx, q2]) | exact Or.inr (fun hlt => by simp [kill_none, Hp.alloc_g, Nat.ne_of_lt hlt])))
        | with_reducible refine rok_and ?_ ?_
        | ((with_reducible refine eok_cons ?_ ?_); (first | exact Or.inl (by decide +kernel) | exact Or.inr (by simp [h9, hg, fr, bl.len, hi, r1, lt1, l1, hwi, hn0, q, hk, hk0, hx, q2]) | exact Or.inr (fun hlt => by simp [kill_none, Hp.alloc_g, Nat.ne_of_lt hlt])))
        | with_reducible refine eok_and ?_ ?_
        | simp -implicitDefEqProofs [h9, hg, fr, bl.len, hi, r1, lt1, l1, hwi, hn0, q, hk, hk0, hx, q2])
      exact ⟨Upto.alloc hu.1 Upto.refl, hs2⟩
  · rintro f h1 ⟨h9, hall⟩ fr hu
    have hg : Grow h h1 := hu
    have : wholeB l (nbit B) = true := hall
    repeat (first
      | with_reducible refine draw_enter ?_
      | with_reducible exact rok_nil
      | ((with_reducible refine rok_cons ?_ ?_); (first | exact Or.inl (by decide +kernel) | exact Or.inr (by simp [h9, hg, fr, bl.len, this]) | exact Or.inr (fun hlt => by simp [kill_none, Hp.alloc_g, Nat.ne_of_lt hlt])))
      | with_reducible refine rok_and ?_ ?_
      | ((with_reducible refine eok_cons ?_ ?_); (first | exact Or.inl (by decide +kernel) | exact Or.inr (by simp [h9, hg, fr, bl.len, this]) | exact Or.inr (fun hlt => by simp [kill_none, Hp.alloc_g, Nat.ne_of_lt hlt])))
      | with_reducible refine eok_and ?_ ?_
      | simp -implicitDefEqProofs [h9, hg, fr, bl.len, this])
end Go.Proofs
