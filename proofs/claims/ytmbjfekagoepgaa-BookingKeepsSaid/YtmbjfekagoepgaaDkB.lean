/- Part of the proofs of the laws (see the last text of a claim): contracts of functions, and what they are shown with. -/
import Derived.Test.YtmbjfekagoepgaaDkA
import Derived.Test.YtmbjfekagoepgaaFwCv
set_option linter.unusedSimpArgs false
set_option linter.unusedVariables false
open Go Go.Fw
namespace Go.Proofs
attribute [local irreducible] Run RunOps RunDraw pop condK guardK guardKD resK drawK RunD dK Fw.gK
set_option maxRecDepth 4000
theorem keep13b {h6 : Hp} {cv mv lv : Value} {s : House} {l : List Bkg} (a : HouseAt h6 cv mv s) (bl : BksAt h6 lv l) (w : BkOk s l) (l6 : l.length ≤ 6) (e5 : errStaff s l = 0) {p i : Nat} (hi : i < l.length) (hb : h6.g p = .row true 3 [cv, mv, I s.cake]) (hp : p < h6.n)
    {f : Vars} (f3 : f 3 = .pointer (some ⟨p, 0, none⟩)) (f1 : f 1 = lv) (h18 : f 18 = I i) {C : Code} (hC : C = (loopsOf (bodyOf Try.f13)).getD 0 .skip) {K : Exit → Vars → Hp → Prop}
    (kk : ∀ f' h', f' 18 = I (i + 1 : Nat) → Upto h6.n h6 h' → K .normal f' h') : Run Try.prog T 237 C (pop Try.prog T 237 K []) f h6 := by
  subst hC
  obtain ⟨hc1, hc2⟩ := cancelE_zero w hi
  have hone := one_less hi
  simp -implicitDefEqProofs [bodyOf, Try.f13, loopsOf]
  repeat (first
    | ((with_reducible refine call_step' (cancel37 a bl i) ?_); rintro v7 h7 ⟨sl7, rfl, g7, s7⟩)
    | with_reducible refine draw_enter ?_
    | with_reducible exact rok_nil
    | ((with_reducible refine rok_cons ?_ ?_); (first | exact Or.inl (by decide +kernel) | exact Or.inr (by simp [h18, f3, f1, bl.len, hi, hb, hp]) | exact Or.inr (fun hlt => by simp [kill_none, Hp.alloc_g, Nat.ne_of_lt hlt])))
    | with_reducible refine rok_and ?_ ?_
    | ((with_reducible refine eok_cons ?_ ?_); (first | exact Or.inl (by decide +kernel) | exact Or.inr (by simp [h18, f3, f1, bl.len, hi, hb, hp]) | exact Or.inr (fun hlt => by simp [kill_none, Hp.alloc_g, Nat.ne_of_lt hlt])))
    | with_reducible refine eok_and ?_ ?_
    | simp -implicitDefEqProofs [h18, f3, f1, bl.len, hi, hb, hp])
  rw [hc1]
  rw [hc2] at s7
  have hg7 : Grow h6 h7 := (Grow.refl (h := h6)).trans g7
  have hn7 : p < h7.n := by have := g7.1; omega
  have hb7 : h7.g p = .row true 3 [cv, mv, I s.cake] := by rw [g7.2 _ hp]; exact hb
  have b7 := bl.grow hg7
  have k7 := s7.sl
  have hws : IntKind.i64.wrap ((l.length : Int) - 1) = ((someL l (notN i)).length : Int) := by rw [IntWalk.i64_in _ (by omega)]; omega
  have r7 := b7.ref (by omega)
  have lt7 := b7.lt (by omega)
  have l5 := ld_bk5 b7 rfl hi
  have hst7 := some_staffed (kp := notN i) e5
  have w7 := some_ok (kp := notN i) w
  have hwi := wrap_succ hi (by omega)
  have u7 : Upto h6.n h6 h7 := g7
  obtain ⟨L7, hL7⟩ : ∃ L7, L7 = someL l (notN i) := ⟨_, rfl⟩
  rw [← hL7] at k7 hws hst7 w7 hone
  repeat (first
    | with_reducible refine draw_enter ?_
    | with_reducible exact rok_nil
    | ((with_reducible refine rok_cons ?_ ?_); (first | exact Or.inl (by decide +kernel) | exact Or.inr (by simp [h18, f3, f1, bl.len, k7.len, hws, hi, r7, lt7, l5]) | exact Or.inr (fun hlt => by simp [kill_none, Hp.alloc_g, Nat.ne_of_lt hlt])))
    | with_reducible refine rok_and ?_ ?_
    | ((with_reducible refine eok_cons ?_ ?_); (first | exact Or.inl (by decide +kernel) | exact Or.inr (by simp [h18, f3, f1, bl.len, k7.len, hws, hi, r7, lt7, l5]) | exact Or.inr (fun hlt => by simp [kill_none, Hp.alloc_g, Nat.ne_of_lt hlt])))
    | with_reducible refine eok_and ?_ ?_
    | simp -implicitDefEqProofs [h18, f3, f1, bl.len, k7.len, hws, hi, r7, lt7, l5])
  with_reducible refine cond_cut [6, 19, 20, 21, 202, 203, 204, 205, 206, 207, 208, 209, 210, 211, 212, 213, 214, 215, 216, 217, 218, 219, 220, 221, 222, 223, 224, 225, 226, 227] (by kernel_rfl) (fun f' H' => ∃ l', l'.length < 20 ∧ Upto h6.n h6 H' ∧ BksAt H' (f' 19) l' ∧ errStaff s l' = 0) ?_ ?_
  · by_cases c0 : 0 ≤ (gB l i).rival
    case neg =>
      repeat (first
        | with_reducible refine draw_enter ?_
        | with_reducible exact rok_nil
        | ((with_reducible refine rok_cons ?_ ?_); (first | exact Or.inl (by decide +kernel) | exact Or.inr (by simp [c0]) | exact Or.inr (fun hlt => by simp [kill_none, Hp.alloc_g, Nat.ne_of_lt hlt])))
        | with_reducible refine rok_and ?_ ?_
        | ((with_reducible refine eok_cons ?_ ?_); (first | exact Or.inl (by decide +kernel) | exact Or.inr (by simp [c0]) | exact Or.inr (fun hlt => by simp [kill_none, Hp.alloc_g, Nat.ne_of_lt hlt])))
        | with_reducible refine eok_and ?_ ?_
        | simp -implicitDefEqProofs [c0])
      exact ⟨L7, by omega, u7, k7, hst7⟩
    obtain ⟨k, hk⟩ : ∃ k : Nat, (gB l i).rival = k := ⟨_, (Int.toNat_of_nonneg c0).symm⟩
    obtain ⟨k1, k2, k3, k4⟩ := rival_then w hi hk
    obtain ⟨R, hR⟩ : ∃ R, R = cntK (notN i) k := ⟨_, rfl⟩
    rw [← hR] at k3 k4
    rw [← hL7] at k4
    rw [hk]
    have hkn : ¬ ((k : Int) < 0) := by omega
    repeat (first
      | with_reducible refine draw_enter ?_
      | with_reducible exact rok_nil
      | ((with_reducible refine rok_cons ?_ ?_); (first | exact Or.inl (by decide +kernel) | exact Or.inr (by simp [hkn, h18]) | exact Or.inr (fun hlt => by simp [kill_none, Hp.alloc_g, Nat.ne_of_lt hlt])))
      | with_reducible refine rok_and ?_ ?_
      | ((with_reducible refine eok_cons ?_ ?_); (first | exact Or.inl (by decide +kernel) | exact Or.inr (by simp [hkn, h18]) | exact Or.inr (fun hlt => by simp [kill_none, Hp.alloc_g, Nat.ne_of_lt hlt])))
      | with_reducible refine eok_and ?_ ?_
      | simp -implicitDefEqProofs [hkn, h18])
    with_reducible refine cond_cut [21, 205, 206] (by kernel_rfl) (fun f' H' => f' 21 = I R ∧ H' = h7) ?_ ?_
    · have hcnt := cnt_ne (n := i) (j := k)
      rw [← hR] at hcnt
      by_cases c1 : i < k
      · have hw : IntKind.i64.wrap ((k : Int) - 1) = (R : Int) := by
          rw [IntWalk.i64_in _ (by omega), hcnt, if_neg (by omega)]
          omega
        repeat (first
          | with_reducible refine draw_enter ?_
          | with_reducible exact rok_nil
          | ((with_reducible refine rok_cons ?_ ?_); (first | exact Or.inl (by decide +kernel) | exact Or.inr (by simp [c1, hw]) | exact Or.inr (fun hlt => by simp [kill_none, Hp.alloc_g, Nat.ne_of_lt hlt])))
          | with_reducible refine rok_and ?_ ?_
          | ((with_reducible refine eok_cons ?_ ?_); (first | exact Or.inl (by decide +kernel) | exact Or.inr (by simp [c1, hw]) | exact Or.inr (fun hlt => by simp [kill_none, Hp.alloc_g, Nat.ne_of_lt hlt])))
          | with_reducible refine eok_and ?_ ?_
          | simp -implicitDefEqProofs [c1, hw])
      · rw [if_pos (by omega)] at hcnt
        subst hcnt
        repeat (first
          | with_reducible refine draw_enter ?_
          | with_reducible exact rok_nil
          | ((with_reducible refine rok_cons ?_ ?_); (first | exact Or.inl (by decide +kernel) | exact Or.inr (by simp [c1]) | exact Or.inr (fun hlt => by simp [kill_none, Hp.alloc_g, Nat.ne_of_lt hlt])))
          | with_reducible refine rok_and ?_ ?_
          | ((with_reducible refine eok_cons ?_ ?_); (first | exact Or.inl (by decide +kernel) | exact Or.inr (by simp [c1]) | exact Or.inr (fun hlt => by simp [kill_none, Hp.alloc_g, Nat.ne_of_lt hlt])))
          | with_reducible refine eok_and ?_ ?_
          | simp -implicitDefEqProofs [c1])
    rintro f8 H8 ⟨h21, rfl⟩ fr8
    have hRL : R < L7.length := by omega
    have hRg : ¬ L7.length ≤ R := by omega
    have r8 := k7.ref (by omega)
    have lt8 := k7.lt (by omega)
    have l8 := ld_bk5 k7 rfl hRL
    rw [k4] at l8
    obtain ⟨hd1, hd2⟩ := cancelE_zero w7 hRL
    repeat (first
      | ((with_reducible refine call_step' (cancel37 (a.grow hg7) k7 R) ?_); rintro v9 h9 ⟨sl9, rfl, g9, s9⟩)
      | with_reducible refine draw_enter ?_
      | with_reducible exact rok_nil
      | ((with_reducible refine rok_cons ?_ ?_); (first | exact Or.inl (by decide +kernel) | exact Or.inr (by simp [h21, fr8, f3, f1, k7.len, hRL, hRg, r8, lt8, l8, hb7, hn7]) | exact Or.inr (fun hlt => by simp [kill_none, Hp.alloc_g, Nat.ne_of_lt hlt])))
      | with_reducible refine rok_and ?_ ?_
      | ((with_reducible refine eok_cons ?_ ?_); (first | exact Or.inl (by decide +kernel) | exact Or.inr (by simp [h21, fr8, f3, f1, k7.len, hRL, hRg, r8, lt8, l8, hb7, hn7]) | exact Or.inr (fun hlt => by simp [kill_none, Hp.alloc_g, Nat.ne_of_lt hlt])))
      | with_reducible refine eok_and ?_ ?_
      | simp -implicitDefEqProofs [h21, fr8, f3, f1, k7.len, hRL, hRg, r8, lt8, l8, hb7, hn7])
    rw [hd1]
    rw [hd2] at s9
    repeat (first
      | with_reducible refine draw_enter ?_
      | with_reducible exact rok_nil
      | ((with_reducible refine rok_cons ?_ ?_); (first | exact Or.inl (by decide +kernel) | exact Or.inr (by simp [h21, fr8]) | exact Or.inr (fun hlt => by simp [kill_none, Hp.alloc_g, Nat.ne_of_lt hlt])))
      | with_reducible refine rok_and ?_ ?_
      | ((with_reducible refine eok_cons ?_ ?_); (first | exact Or.inl (by decide +kernel) | exact Or.inr (by simp [h21, fr8]) | exact Or.inr (fun hlt => by simp [kill_none, Hp.alloc_g, Nat.ne_of_lt hlt])))
      | with_reducible refine eok_and ?_ ?_
      | simp -implicitDefEqProofs [h21, fr8])
    refine ⟨_, ?_, u7.trans (show Upto h6.n H8 h9 from Upto.mono g9 u7.1), s9.sl, some_staffed hst7⟩
    rw [one_less hRL]
    omega
  rintro f8 h8 ⟨l', hl', u8, k8, hst8⟩ fr8
  have hg8 : Grow h6 h8 := (Grow.refl (h := h6)).trans u8
  have hn8 : p < h8.n := by have := u8.1; omega
  have hb8 : h8.g p = .row true 3 [cv, mv, I s.cake] := by rw [u8.2 _ hp]; exact hb
  repeat (first
    | ((with_reducible refine call_step' (staff30 (a.grow hg8) k8 (fun _ => hl')) ?_); rintro v9 h9 ⟨sl9, rfl, g9, s9⟩)
    | with_reducible refine draw_enter ?_
    | with_reducible exact rok_nil
    | ((with_reducible refine rok_cons ?_ ?_); (first | exact Or.inl (by decide +kernel) | exact Or.inr (by simp [fr8, f3, f1, hb8, hn8]) | exact Or.inr (fun hlt => by simp [kill_none, Hp.alloc_g, Nat.ne_of_lt hlt])))
    | with_reducible refine rok_and ?_ ?_
    | ((with_reducible refine eok_cons ?_ ?_); (first | exact Or.inl (by decide +kernel) | exact Or.inr (by simp [fr8, f3, f1, hb8, hn8]) | exact Or.inr (fun hlt => by simp [kill_none, Hp.alloc_g, Nat.ne_of_lt hlt])))
    | with_reducible refine eok_and ?_ ?_
    | simp -implicitDefEqProofs [fr8, f3, f1, hb8, hn8])
  rw [hst8]
  have u9 : Upto h6.n h6 h9 := u8.trans (show Upto h6.n h8 h9 from Upto.mono g9 u8.1)
  repeat (first
    | with_reducible refine draw_enter ?_
    | with_reducible exact rok_nil
    | ((with_reducible refine rok_cons ?_ ?_); (first | exact Or.inl (by decide +kernel) | exact Or.inr (by simp [fr8, h18, hwi]) | exact Or.inr (fun hlt => by simp [kill_none, Hp.alloc_g, Nat.ne_of_lt hlt])))
    | with_reducible refine rok_and ?_ ?_
    | ((with_reducible refine eok_cons ?_ ?_); (first | exact Or.inl (by decide +kernel) | exact Or.inr (by simp [fr8, h18, hwi]) | exact Or.inr (fun hlt => by simp [kill_none, Hp.alloc_g, Nat.ne_of_lt hlt])))
    | with_reducible refine eok_and ?_ ?_
    | simp -implicitDefEqProofs [fr8, h18, hwi])
  exact kk _ _ (by simp [fr8, h18, hwi]) u9
theorem ok13 : codeOk Try.f13.ntmps (bodyOf Try.f13) = true := by kernel_rfl
theorem keeps13 {h : Hp} {cv mv lv : Value} {s : House} {l : List Bkg} (a : HouseAt h cv mv s) (bl : BksAt h lv l) (x y : Bkg) : CallX Try.prog 13 #[.agg #[cv, mv, I s.cake], lv, .agg (x.cells ++ y.cells).toArray] h (.bool true) h := by
  refine run_flat Tok hm Try.func13 (by kernel_rfl) (by kernel_rfl) ok13 (Nat.le_of_ble_eq_true rfl) ?_
  cases q : largeB s l with
  | true =>
    repeat (first
      | with_reducible refine call_step (large17 (a.grow (by simp)) (bl.grow (by simp))) ?_
      | with_reducible refine call_step (works18 _) ?_
      | with_reducible refine draw_enter ?_
      | with_reducible refine q_call (large17 (a.grow (by simp)) (bl.grow (by simp))) ROk.refl ?_
      | with_reducible refine q_call (works18 _) ROk.refl ?_
      | with_reducible exact rok_nil
      | ((with_reducible refine rok_cons ?_ ?_); (first | exact Or.inl (by decide +kernel) | exact Or.inr (by simp [bodyOf, Try.f13, q]) | exact Or.inr (fun hlt => by simp [kill_none, Hp.alloc_g, Nat.ne_of_lt hlt])))
      | with_reducible refine rok_and ?_ ?_
      | ((with_reducible refine eok_cons ?_ ?_); (first | exact Or.inl (by decide +kernel) | exact Or.inr (by simp [bodyOf, Try.f13, q]) | exact Or.inr (fun hlt => by simp [kill_none, Hp.alloc_g, Nat.ne_of_lt hlt])))
      | with_reducible refine eok_and ?_ ?_
      | simp -implicitDefEqProofs [bodyOf, Try.f13, q])
  | false =>
  by_cases q6 : 6 < l.length
  ·
    repeat (first
      | with_reducible refine call_step (large17 (a.grow (by simp)) (bl.grow (by simp))) ?_
      | with_reducible refine call_step (works18 _) ?_
      | with_reducible refine draw_enter ?_
      | with_reducible refine q_call (large17 (a.grow (by simp)) (bl.grow (by simp))) ROk.refl ?_
      | with_reducible refine q_call (works18 _) ROk.refl ?_
      | with_reducible exact rok_nil
      | ((with_reducible refine rok_cons ?_ ?_); (first | exact Or.inl (by decide +kernel) | exact Or.inr (by simp [bodyOf, Try.f13, q, bl.len, q6]) | exact Or.inr (fun hlt => by simp [kill_none, Hp.alloc_g, Nat.ne_of_lt hlt])))
      | with_reducible refine rok_and ?_ ?_
      | ((with_reducible refine eok_cons ?_ ?_); (first | exact Or.inl (by decide +kernel) | exact Or.inr (by simp [bodyOf, Try.f13, q, bl.len, q6]) | exact Or.inr (fun hlt => by simp [kill_none, Hp.alloc_g, Nat.ne_of_lt hlt])))
      | with_reducible refine eok_and ?_ ?_
      | simp -implicitDefEqProofs [bodyOf, Try.f13, q, bl.len, q6])
  by_cases e : errCheck s l = 0
  case neg =>
    repeat (first
      | with_reducible refine call_step (large17 (a.grow (by simp)) (bl.grow (by simp))) ?_
      | with_reducible refine call_step (check26 (a.grow (by simp)) (bl.grow (by simp))) ?_
      | with_reducible refine call_step (works18 _) ?_
      | with_reducible refine draw_enter ?_
      | with_reducible refine q_call (large17 (a.grow (by simp)) (bl.grow (by simp))) ROk.refl ?_
      | with_reducible refine q_call (check26 (a.grow (by simp)) (bl.grow (by simp))) ROk.refl ?_
      | with_reducible refine q_call (works18 _) ROk.refl ?_
      | with_reducible exact rok_nil
      | ((with_reducible refine rok_cons ?_ ?_); (first | exact Or.inl (by decide +kernel) | exact Or.inr (by simp [bodyOf, Try.f13, q, bl.len, q6, e]) | exact Or.inr (fun hlt => by simp [kill_none, Hp.alloc_g, Nat.ne_of_lt hlt])))
      | with_reducible refine rok_and ?_ ?_
      | ((with_reducible refine eok_cons ?_ ?_); (first | exact Or.inl (by decide +kernel) | exact Or.inr (by simp [bodyOf, Try.f13, q, bl.len, q6, e]) | exact Or.inr (fun hlt => by simp [kill_none, Hp.alloc_g, Nat.ne_of_lt hlt])))
      | with_reducible refine eok_and ?_ ?_
      | simp -implicitDefEqProofs [bodyOf, Try.f13, q, bl.len, q6, e])
  have w := bkOk_iff.1 e
  repeat (first
    | with_reducible refine call_step (large17 (a.grow (by simp)) (bl.grow (by simp))) ?_
    | with_reducible refine call_step (check26 (a.grow (by simp)) (bl.grow (by simp))) ?_
    | ((with_reducible refine call_step' (add19 (a.grow (by simp)) (bl.grow (by simp)) (fun _ => by omega)) ?_); rintro v1 h1 ⟨sl1, rfl, g1, s1⟩)
    | with_reducible refine draw_enter ?_
    | with_reducible refine q_call (large17 (a.grow (by simp)) (bl.grow (by simp))) ROk.refl ?_
    | with_reducible refine q_call (check26 (a.grow (by simp)) (bl.grow (by simp))) ROk.refl ?_
    | with_reducible exact rok_nil
    | ((with_reducible refine rok_cons ?_ ?_); (first | exact Or.inl (by decide +kernel) | exact Or.inr (by simp [bodyOf, Try.f13, q, bl.len, q6, e]) | exact Or.inr (fun hlt => by simp [kill_none, Hp.alloc_g, Nat.ne_of_lt hlt])))
    | with_reducible refine rok_and ?_ ?_
    | ((with_reducible refine eok_cons ?_ ?_); (first | exact Or.inl (by decide +kernel) | exact Or.inr (by simp [bodyOf, Try.f13, q, bl.len, q6, e]) | exact Or.inr (fun hlt => by simp [kill_none, Hp.alloc_g, Nat.ne_of_lt hlt])))
    | with_reducible refine eok_and ?_ ?_
    | simp -implicitDefEqProofs [bodyOf, Try.f13, q, bl.len, q6, e])
  have hg1 : Grow h h1 := Grow.trans (by simp) g1
  have hn1 : h.n + 1 < h1.n := by have := g1.1; simp at this; omega
  have hn0 : h.n < h1.n := by omega
  have hb1 : h1.g h.n = .row true 3 [cv, mv, I s.cake] := by rw [g1.2 _ (by simp)]; simp
  have hy1 : h1.g (h.n + 1) = .row true 12 (x.cells ++ y.cells) := by rw [g1.2 _ (by simp)]; simp
  with_reducible refine cond_cut [6, 9, 10, 11, 12, 49, 50, 51, 52, 53, 54, 55, 56, 57, 58, 59, 60, 61, 62, 63, 64, 65, 66, 67, 68, 69, 70, 71, 72, 73, 74, 75, 76, 77, 78, 79, 80, 81, 82, 83, 84, 85, 86, 87, 88, 89, 90, 91, 92, 93, 94, 95, 96, 97, 98, 99, 100, 101] (by kernel_rfl) (fun f' H' => Upto h1.n h1 H') ?_ ?_
  · by_cases e1 : addE s l x = 0
    case neg =>
      repeat (first
        | with_reducible refine draw_enter ?_
        | with_reducible exact rok_nil
        | ((with_reducible refine rok_cons ?_ ?_); (first | exact Or.inl (by decide +kernel) | exact Or.inr (by simp [e1]) | exact Or.inr (fun hlt => by simp [kill_none, Hp.alloc_g, Nat.ne_of_lt hlt])))
        | with_reducible refine rok_and ?_ ?_
        | ((with_reducible refine eok_cons ?_ ?_); (first | exact Or.inl (by decide +kernel) | exact Or.inr (by simp [e1]) | exact Or.inr (fun hlt => by simp [kill_none, Hp.alloc_g, Nat.ne_of_lt hlt])))
        | with_reducible refine eok_and ?_ ?_
        | simp -implicitDefEqProofs [e1])
    obtain ⟨-, w2, hL, hst, h20⟩ := addE_zero e1
    rw [hL] at s1
    have k1 := s1.sl
    have hlen : (l ++ [x]).length = l.length + 1 := by simp
    obtain ⟨hc1, hc2⟩ := cancelE_zero (n := l.length) w2 (by rw [hlen]; omega)
    rw [add_cancel w] at hc2
    have m1 := k1.cut (t := some (.slice 28, 6, 48)) (e := 28) (q := .i64) rfl (show l.length ≤ (l ++ [x]).length by rw [hlen]; omega)
    repeat (first
      | ((with_reducible refine call_step' (cancel37 (a.grow hg1) k1 l.length) ?_); rintro v2 h2 ⟨sl2, rfl, g2, s2⟩)
      | with_reducible refine draw_enter ?_
      | with_reducible exact rok_nil
      | ((with_reducible refine rok_cons ?_ ?_); (first | exact Or.inl (by decide +kernel) | exact Or.inr (by simp [e1, hb1, hn0, bl.len]) | exact Or.inr (fun hlt => by simp [kill_none, Hp.alloc_g, Nat.ne_of_lt hlt])))
      | with_reducible refine rok_and ?_ ?_
      | ((with_reducible refine eok_cons ?_ ?_); (first | exact Or.inl (by decide +kernel) | exact Or.inr (by simp [e1, hb1, hn0, bl.len]) | exact Or.inr (fun hlt => by simp [kill_none, Hp.alloc_g, Nat.ne_of_lt hlt])))
      | with_reducible refine eok_and ?_ ?_
      | simp -implicitDefEqProofs [e1, hb1, hn0, bl.len])
    rw [hc1]
    rw [hc2] at s2
    have hg2 : Grow h h2 := hg1.trans g2
    have hb2 : h2.g h.n = .row true 3 [cv, mv, I s.cake] := by rw [g2.2 _ hn0]; exact hb1
    have hn2 : h.n < h2.n := by have := g2.1; omega
    have hy2 : h2.g (h.n + 1) = .row true 12 (x.cells ++ y.cells) := by rw [g2.2 _ hn1]; exact hy1
    repeat (first
      | ((with_reducible refine call_step' (staff30 (a.grow hg2) (k1.grow g2) (fun _ => by rw [hlen]; omega)) ?_); rintro v3 h3 ⟨sl3, rfl, g3, s3⟩)
      | with_reducible refine draw_enter ?_
      | with_reducible exact rok_nil
      | ((with_reducible refine rok_cons ?_ ?_); (first | exact Or.inl (by decide +kernel) | exact Or.inr (by simp [hb2, hn2]) | exact Or.inr (fun hlt => by simp [kill_none, Hp.alloc_g, Nat.ne_of_lt hlt])))
      | with_reducible refine rok_and ?_ ?_
      | ((with_reducible refine eok_cons ?_ ?_); (first | exact Or.inl (by decide +kernel) | exact Or.inr (by simp [hb2, hn2]) | exact Or.inr (fun hlt => by simp [kill_none, Hp.alloc_g, Nat.ne_of_lt hlt])))
      | with_reducible refine eok_and ?_ ?_
      | simp -implicitDefEqProofs [hb2, hn2])
    rw [hst]
    have hg3 : Grow h h3 := hg2.trans g3
    have hw1 : IntKind.i64.wrap ((l.length : Int) + 1) = (l.length : Int) + 1 := IntWalk.i64_in _ (by omega)
    have sm1 := sameBks21 (s2.sl.grow g3) (bl.grow hg3) (by omega)
    have kc : BksAt h3 (slCut sl1 l.length) l := by
      have := (k1.grow (g2.trans g3)).cut_ok (k := l.length) (by rw [hlen]; omega)
      rw [← bk_len (l := l), List.flatMap_append, List.take_left] at this
      exact this
    have sm2 := sameBks21 kc (bl.grow hg3) (by omega)
    rw [decide_eq_true rfl] at sm1 sm2
    have k3 := k1.grow (g2.trans g3)
    have r3 := k3.ref (by rw [hlen]; omega)
    have lt3 := k3.lt (by rw [hlen]; omega)
    have l3 := ld_bk k3 rfl (i := l.length) (by rw [hlen]; omega)
    have hat : gB (l ++ [x]) l.length = x := by
      have := gB_right (l := l) (m := [x]) (i := 0) (by simp)
      exact this
    rw [hat] at l3
    have hy3 : h3.g (h.n + 1) = .row true 12 (x.cells ++ y.cells) := by rw [g3.2 _ (by have := g2.1; omega)]; exact hy2
    have hn3 : h.n + 1 < h3.n := by have := g2.1; have := g3.1; omega
    repeat (first
      | with_reducible refine call_step (sm1) ?_
      | with_reducible refine call_step (sm2) ?_
      | with_reducible refine draw_enter ?_
      | with_reducible refine q_call (sm1) ROk.refl ?_
      | with_reducible refine q_call (sm2) ROk.refl ?_
      | with_reducible exact rok_nil
      | ((with_reducible refine rok_cons ?_ ?_); (first | exact Or.inl (by decide +kernel) | exact Or.inr (by simp [k1.len, bl.len, hlen, hw1, m1, r3, lt3, l3, hy3, hn3, eq_bk]) | exact Or.inr (fun hlt => by simp [kill_none, Hp.alloc_g, Nat.ne_of_lt hlt])))
      | with_reducible refine rok_and ?_ ?_
      | ((with_reducible refine eok_cons ?_ ?_); (first | exact Or.inl (by decide +kernel) | exact Or.inr (by simp [k1.len, bl.len, hlen, hw1, m1, r3, lt3, l3, hy3, hn3, eq_bk]) | exact Or.inr (fun hlt => by simp [kill_none, Hp.alloc_g, Nat.ne_of_lt hlt])))
      | with_reducible refine eok_and ?_ ?_
      | simp -implicitDefEqProofs [k1.len, bl.len, hlen, hw1, m1, r3, lt3, l3, hy3, hn3, eq_bk])
    exact g2.trans g3
  rintro f2 h2 hu2 fr2
  have hn2 : h.n + 1 < h2.n := by have := hu2.1; omega
  have hn20 : h.n < h2.n := by omega
  have hb2 : h2.g h.n = .row true 3 [cv, mv, I s.cake] := by rw [hu2.2 _ hn0]; exact hb1
  have hy2 : h2.g (h.n + 1) = .row true 12 (x.cells ++ y.cells) := by rw [hu2.2 _ hn1]; exact hy1
  have hg2 : Grow h h2 := hg1.trans hu2
  have a2 := a.grow hg2
  have b2 := bl.grow hg2
  repeat (first
    | ((with_reducible refine call_step' (duel24 (x := x) (y := y) a2 b2 (fun _ => by omega)) ?_); rintro v3 h3 ⟨sl3, rfl, g3, s3⟩)
    | with_reducible refine draw_enter ?_
    | with_reducible exact rok_nil
    | ((with_reducible refine rok_cons ?_ ?_); (first | exact Or.inl (by decide +kernel) | exact Or.inr (by simp [fr2, hb2, hy2, hn2, hn20]) | exact Or.inr (fun hlt => by simp [kill_none, Hp.alloc_g, Nat.ne_of_lt hlt])))
    | with_reducible refine rok_and ?_ ?_
    | ((with_reducible refine eok_cons ?_ ?_); (first | exact Or.inl (by decide +kernel) | exact Or.inr (by simp [fr2, hb2, hy2, hn2, hn20]) | exact Or.inr (fun hlt => by simp [kill_none, Hp.alloc_g, Nat.ne_of_lt hlt])))
    | with_reducible refine eok_and ?_ ?_
    | simp -implicitDefEqProofs [fr2, hb2, hy2, hn2, hn20])
  have hg3 : Grow h h3 := hg2.trans g3
  have hn3 : h.n + 1 < h3.n := by have := g3.1; omega
  have hn30 : h.n < h3.n := by omega
  have hb3 : h3.g h.n = .row true 3 [cv, mv, I s.cake] := by rw [g3.2 _ hn20]; exact hb2
  with_reducible refine cond_cut [6, 14, 15, 114, 115, 116, 117, 118, 119, 120, 121, 122, 123, 124, 125, 126, 127, 128, 129, 130, 131, 132, 133, 134, 135, 136, 137, 138, 139, 140, 141, 142, 143, 144, 145, 146, 147, 148, 149, 150, 151, 152, 153, 154, 155, 156, 157, 158, 159, 160, 161, 162] (by kernel_rfl) (fun f' H' => Upto h3.n h3 H') ?_ ?_
  · by_cases e1 : duelE s l x y = 0
    case neg =>
      repeat (first
        | with_reducible refine draw_enter ?_
        | with_reducible exact rok_nil
        | ((with_reducible refine rok_cons ?_ ?_); (first | exact Or.inl (by decide +kernel) | exact Or.inr (by simp [e1]) | exact Or.inr (fun hlt => by simp [kill_none, Hp.alloc_g, Nat.ne_of_lt hlt])))
        | with_reducible refine rok_and ?_ ?_
        | ((with_reducible refine eok_cons ?_ ?_); (first | exact Or.inl (by decide +kernel) | exact Or.inr (by simp [e1]) | exact Or.inr (fun hlt => by simp [kill_none, Hp.alloc_g, Nat.ne_of_lt hlt])))
        | with_reducible refine eok_and ?_ ?_
        | simp -implicitDefEqProofs [e1])
    obtain ⟨-, w2, hL, hst, h20⟩ := duelE_zero e1
    rw [hL] at s3
    have k3 := s3.sl
    have hlen : (l ++ duo l x y).length = l.length + 2 := by simp [duo]
    have m1 := k3.cut (t := some (.slice 28, 6, 48)) (e := 28) (q := .i64) rfl (show l.length ≤ (l ++ duo l x y).length by rw [hlen]; omega)
    repeat (first
      | ((with_reducible refine call_step' (staff30 (a.grow hg3) k3 (fun _ => by rw [hlen]; omega)) ?_); rintro v4 h4 ⟨sl4, rfl, g4, s4⟩)
      | with_reducible refine draw_enter ?_
      | with_reducible exact rok_nil
      | ((with_reducible refine rok_cons ?_ ?_); (first | exact Or.inl (by decide +kernel) | exact Or.inr (by simp [e1, fr2, hb3, hn30]) | exact Or.inr (fun hlt => by simp [kill_none, Hp.alloc_g, Nat.ne_of_lt hlt])))
      | with_reducible refine rok_and ?_ ?_
      | ((with_reducible refine eok_cons ?_ ?_); (first | exact Or.inl (by decide +kernel) | exact Or.inr (by simp [e1, fr2, hb3, hn30]) | exact Or.inr (fun hlt => by simp [kill_none, Hp.alloc_g, Nat.ne_of_lt hlt])))
      | with_reducible refine eok_and ?_ ?_
      | simp -implicitDefEqProofs [e1, fr2, hb3, hn30])
    rw [hst]
    have hg4 : Grow h h4 := hg3.trans g4
    have hw1 : IntKind.i64.wrap ((l.length : Int) + 1) = (l.length : Int) + 1 := IntWalk.i64_in _ (by omega)
    have hw2 : IntKind.i64.wrap ((l.length : Int) + 2) = (l.length : Int) + 2 := IntWalk.i64_in _ (by omega)
    have k4 := k3.grow g4
    have kc : BksAt h4 (slCut sl3 l.length) l := by
      have := k4.cut_ok (k := l.length) (by rw [hlen]; omega)
      rw [← bk_len (l := l), List.flatMap_append, List.take_left] at this
      exact this
    have sm2 := sameBks21 kc (bl.grow hg4) (by omega)
    rw [decide_eq_true rfl] at sm2
    have r4 := k4.ref (by rw [hlen]; omega)
    have lt4 := k4.lt (by rw [hlen]; omega)
    have l5 := ld_bk5 k4 rfl (i := l.length) (by rw [hlen]; omega)
    have l5' := ld_bk5 k4 rfl (i := l.length + 1) (by rw [hlen]; omega)
    have hat : (gB (l ++ duo l x y) l.length).rival = l.length + 1 := by
      have := gB_right (l := l) (m := duo l x y) (i := 0) (by simp [duo])
      rw [Nat.add_zero] at this
      rw [this]; rfl
    have hat' : (gB (l ++ duo l x y) (l.length + 1)).rival = l.length := by
      have := gB_right (l := l) (m := duo l x y) (i := 1) (by simp [duo])
      rw [this]; rfl
    rw [hat] at l5
    rw [hat'] at l5'
    have hl2 : (l.length : Int) < l.length + 2 := by omega
    have hl4 : (0 : Int) ≤ (l.length : Int) + 1 := by omega
    have hl3 : (l.length : Int) + 1 < l.length + 2 := by omega
    repeat (first
      | with_reducible refine call_step (sm2) ?_
      | with_reducible refine draw_enter ?_
      | with_reducible refine q_call (sm2) ROk.refl ?_
      | with_reducible exact rok_nil
      | ((with_reducible refine rok_cons ?_ ?_); (first | exact Or.inl (by decide +kernel) | exact Or.inr (by simp [fr2, k3.len, bl.len, hlen, hw1, hw2, m1, r4, lt4, l5, l5', hl2, hl3, hl4]) | exact Or.inr (fun hlt => by simp [kill_none, Hp.alloc_g, Nat.ne_of_lt hlt])))
      | with_reducible refine rok_and ?_ ?_
      | ((with_reducible refine eok_cons ?_ ?_); (first | exact Or.inl (by decide +kernel) | exact Or.inr (by simp [fr2, k3.len, bl.len, hlen, hw1, hw2, m1, r4, lt4, l5, l5', hl2, hl3, hl4]) | exact Or.inr (fun hlt => by simp [kill_none, Hp.alloc_g, Nat.ne_of_lt hlt])))
      | with_reducible refine eok_and ?_ ?_
      | simp -implicitDefEqProofs [fr2, k3.len, bl.len, hlen, hw1, hw2, m1, r4, lt4, l5, l5', hl2, hl3, hl4])
    exact g4
  rintro f4 h4 hu4 fr4
  have hg4 : Grow h h4 := hg3.trans hu4
  have hn4 : h.n < h4.n := by have := hu4.1; omega
  have hb4 : h4.g h.n = .row true 3 [cv, mv, I s.cake] := by rw [hu4.2 _ hn30]; exact hb3
  have a4 := a.grow hg4
  have b4 := bl.grow hg4
  repeat (first
    | ((with_reducible refine call_step' (staff30 a4 b4 (fun _ => by omega)) ?_); rintro v5 h5 ⟨sl5, rfl, g5, s5⟩)
    | with_reducible refine draw_enter ?_
    | with_reducible exact rok_nil
    | ((with_reducible refine rok_cons ?_ ?_); (first | exact Or.inl (by decide +kernel) | exact Or.inr (by simp [fr4, fr2, hb4, hn4]) | exact Or.inr (fun hlt => by simp [kill_none, Hp.alloc_g, Nat.ne_of_lt hlt])))
    | with_reducible refine rok_and ?_ ?_
    | ((with_reducible refine eok_cons ?_ ?_); (first | exact Or.inl (by decide +kernel) | exact Or.inr (by simp [fr4, fr2, hb4, hn4]) | exact Or.inr (fun hlt => by simp [kill_none, Hp.alloc_g, Nat.ne_of_lt hlt])))
    | with_reducible refine eok_and ?_ ?_
    | simp -implicitDefEqProofs [fr4, fr2, hb4, hn4])
  have hg5 : Grow h h5 := hg4.trans g5
  by_cases e5 : errStaff s l = 0
  case neg =>
    repeat (first
      | with_reducible refine call_step (works18 _) ?_
      | with_reducible refine draw_enter ?_
      | with_reducible refine q_call (works18 _) ROk.refl ?_
      | with_reducible exact rok_nil
      | ((with_reducible refine rok_cons ?_ ?_); (first | exact Or.inl (by decide +kernel) | exact Or.inr (by simp [e5, hg5]) | exact Or.inr (fun hlt => by simp [kill_none, Hp.alloc_g, Nat.ne_of_lt hlt])))
      | with_reducible refine rok_and ?_ ?_
      | ((with_reducible refine eok_cons ?_ ?_); (first | exact Or.inl (by decide +kernel) | exact Or.inr (by simp [e5, hg5]) | exact Or.inr (fun hlt => by simp [kill_none, Hp.alloc_g, Nat.ne_of_lt hlt])))
      | with_reducible refine eok_and ?_ ?_
      | simp -implicitDefEqProofs [e5, hg5])
  have hn5 : h.n < h5.n := by have := g5.1; omega
  have hb5 : h5.g h.n = .row true 3 [cv, mv, I s.cake] := by rw [g5.2 _ hn4]; exact hb4
  repeat (first
    | with_reducible refine draw_enter ?_
    | with_reducible exact rok_nil
    | ((with_reducible refine rok_cons ?_ ?_); (first | exact Or.inl (by decide +kernel) | exact Or.inr (by simp [fr4, fr2, e5]) | exact Or.inr (fun hlt => by simp [kill_none, Hp.alloc_g, Nat.ne_of_lt hlt])))
    | with_reducible refine rok_and ?_ ?_
    | ((with_reducible refine eok_cons ?_ ?_); (first | exact Or.inl (by decide +kernel) | exact Or.inr (by simp [fr4, fr2, e5]) | exact Or.inr (fun hlt => by simp [kill_none, Hp.alloc_g, Nat.ne_of_lt hlt])))
    | with_reducible refine eok_and ?_ ?_
    | simp -implicitDefEqProofs [fr4, fr2, e5])
  refine run_for Tok hm (by kernel_rfl) [6, 18, 19, 20, 21, 22, 23, 172, 173, 174, 175, 176, 177, 178, 179, 180, 181, 182, 183, 184, 185, 186, 187, 188, 189, 190, 191, 192, 193, 194, 195, 196, 197, 198, 199, 200, 201, 202, 203, 204, 205, 206, 207, 208, 209, 210, 211, 212, 213, 214, 215, 216, 217, 218, 219, 220, 221, 222, 223, 224, 225, 226, 227, 228, 229, 230, 231, 232, 233, 234, 235] (by kernel_rfl) h5.n l.length (fun i f h6 => f 18 = I i) ?_ ?_ ?_
  · simp
  · rintro i f h6 hi h18 fr hu
    have hg6 : Grow h h6 := hg5.trans hu
    refine keep13b (a.grow hg6) (bl.grow hg6) w (by omega) e5 hi (by rw [hu.2 _ hn5]; exact hb5) (by have := hu.1; omega) (by simp [fr, fr4, fr2]) (by simp [fr, fr4, fr2]) h18 (by kernel_rfl) fun f' h' k18 u => ?_
    simp only [fk_normal]
    exact ⟨u.mono hu.1, k18⟩
  · rintro f h6 h18 fr hu
    have hg6 : Grow h h6 := hg5.trans hu
    repeat (first
      | with_reducible refine call_step (works18 _) ?_
      | with_reducible refine draw_enter ?_
      | with_reducible refine q_call (works18 _) ROk.refl ?_
      | with_reducible exact rok_nil
      | ((with_reducible refine rok_cons ?_ ?_); (first | exact Or.inl (by decide +kernel) | exact Or.inr (by simp [h18, fr, fr4, fr2, bl.len, hg6]) | exact Or.inr (fun hlt => by simp [kill_none, Hp.alloc_g, Nat.ne_of_lt hlt])))
      | with_reducible refine rok_and ?_ ?_
      | ((with_reducible refine eok_cons ?_ ?_); (first | exact Or.inl (by decide +kernel) | exact Or.inr (by simp [h18, fr, fr4, fr2, bl.len, hg6]) | exact Or.inr (fun hlt => by simp [kill_none, Hp.alloc_g, Nat.ne_of_lt hlt])))
      | with_reducible refine eok_and ?_ ?_
      | simp -implicitDefEqProofs [h18, fr, fr4, fr2, bl.len, hg6])
end Go.Proofs
