/- Part of the proofs of the laws (see the last text of a claim): contracts of functions, and what they are shown with. -/
import Derived.Test.YtmbjfekagoepgaaDkK
set_option linter.unusedSimpArgs false
set_option linter.unusedVariables false
open Go Go.Fw
namespace Go.Proofs
attribute [local irreducible] Run RunOps RunDraw pop condK guardK guardKD resK drawK RunD dK Fw.gK
set_option maxRecDepth 4000
theorem good_staff {s : House} {l : List Bkg} {kp : Nat → Bool} (w : BkOk s l) : goodB s l kp = (wholeB l kp && decide (errStaff s (someL l kp) = 0)) := by
  have w2 := some_ok (kp := kp) w
  have e := bkOk_iff.2 w2
  unfold goodB errStaff
  rw [if_pos e]
  cases wholeB l kp <;> cases fitsOf s (someL l kp) <;> cases (staffL s (someL l kp)).isSome <;> rfl
theorem worth_best {s : House} {l : List Bkg} {ws : List Int} (w : BkOk s l) (hl : l.length < 64) : worthP s l ws (bestTo s l ws (2 ^ l.length)).1 = ((bestTo s l ws (2 ^ l.length)).2, true) := by
  have b := best_ok (s := s) (ws := ws) hl (Nat.le_refl _)
  obtain ⟨B, h1, h2, h3⟩ := b.at_
  have hin : ∀ i, i < l.length → inC (bestTo s l ws (2 ^ l.length)).1 i = nbit B i := fun i hi => by rw [h3]; exact inC_mem hi
  have hr : risB l.length (bestTo s l ws (2 ^ l.length)).1 = true := risB_iff.2 (h3 ▸ mem_rising)
  rw [good_staff w, Bool.and_eq_true, decide_eq_true_eq] at h2
  rw [worthP, hr, wholeB_congr w.rvs hin, h2.1, someL_congr w.rvs hin, h2.2, ← b.val]
  rfl
theorem worth_top {s : House} {l : List Bkg} {ws c : List Int} (w : BkOk s l) (hl : l.length < 64) (h : (worthP s l ws c).2 = true) :
    (worthP s l ws c).1 < (bestTo s l ws (2 ^ l.length)).2 ∨ ((worthP s l ws c).1 = (bestTo s l ws (2 ^ l.length)).2 ∧ (bestTo s l ws (2 ^ l.length)).1.length ≤ c.length) := by
  unfold worthP at h ⊢
  split at h
  · rename_i q
    rw [if_pos q]
    rw [Bool.and_eq_true, risB_iff] at q
    obtain ⟨r, qw⟩ := q
    obtain ⟨B, h1, h2⟩ := rising_num (n := l.length) (c := c) hl
    have b := best_ok (s := s) (ws := ws) hl (Nat.le_refl _)
    have hg : goodB s l (nbit B) = true := by
      rw [goodB_congr w.rvs h2, good_staff w, qw]
      exact h
    have := b.top B h1 hg
    rw [memL_congr h2, rising_mem r] at this
    exact this
  · cases h
theorem ok16 : codeOk Try.f16.ntmps (bodyOf Try.f16) = true := by kernel_rfl
theorem best16 {h : Hp} {cv mv lv pv ov : Value} {s : House} {l : List Bkg} {ws c : List Int} (a : HouseAt h cv mv s) (bl : BksAt h lv l) (hw : SlOk h pv 1 ws.length (ws.map I)) (hc : SlOk h ov 1 c.length (c.map I)) : CallX Try.prog 16 #[.agg #[cv, mv, I s.cake], lv, .agg #[pv, ov]] h (.bool true) h := by
  refine run_flat Tok hm Try.func16 (by kernel_rfl) (by kernel_rfl) ok16 (Nat.le_of_ble_eq_true rfl) ?_
  by_cases q1 : 6 < l.length
  ·
    repeat (first
      | with_reducible refine call_step (works18 _) ?_
      | with_reducible refine draw_enter ?_
      | with_reducible refine q_call (works18 _) ROk.refl ?_
      | with_reducible exact rok_nil
      | ((with_reducible refine rok_cons ?_ ?_); (first | exact Or.inl (by decide +kernel) | exact Or.inr (by simp [bodyOf, Try.f16, bl.len, q1]) | exact Or.inr (fun hlt => by simp [kill_none, Hp.alloc_g, Nat.ne_of_lt hlt])))
      | with_reducible refine rok_and ?_ ?_
      | ((with_reducible refine eok_cons ?_ ?_); (first | exact Or.inl (by decide +kernel) | exact Or.inr (by simp [bodyOf, Try.f16, bl.len, q1]) | exact Or.inr (fun hlt => by simp [kill_none, Hp.alloc_g, Nat.ne_of_lt hlt])))
      | with_reducible refine eok_and ?_ ?_
      | simp -implicitDefEqProofs [bodyOf, Try.f16, bl.len, q1])
  cases q : largeB s l with
  | true =>
    repeat (first
      | with_reducible refine call_step (large17 (a.grow (by simp)) (bl.grow (by simp))) ?_
      | with_reducible refine call_step (works18 _) ?_
      | with_reducible refine draw_enter ?_
      | with_reducible refine q_call (large17 (a.grow (by simp)) (bl.grow (by simp))) ROk.refl ?_
      | with_reducible refine q_call (works18 _) ROk.refl ?_
      | with_reducible exact rok_nil
      | ((with_reducible refine rok_cons ?_ ?_); (first | exact Or.inl (by decide +kernel) | exact Or.inr (by simp [bodyOf, Try.f16, bl.len, q1, q]) | exact Or.inr (fun hlt => by simp [kill_none, Hp.alloc_g, Nat.ne_of_lt hlt])))
      | with_reducible refine rok_and ?_ ?_
      | ((with_reducible refine eok_cons ?_ ?_); (first | exact Or.inl (by decide +kernel) | exact Or.inr (by simp [bodyOf, Try.f16, bl.len, q1, q]) | exact Or.inr (fun hlt => by simp [kill_none, Hp.alloc_g, Nat.ne_of_lt hlt])))
      | with_reducible refine eok_and ?_ ?_
      | simp -implicitDefEqProofs [bodyOf, Try.f16, bl.len, q1, q])
  | false =>
  by_cases e : errCheck s l = 0
  case neg =>
    repeat (first
      | with_reducible refine call_step (large17 (a.grow (by simp)) (bl.grow (by simp))) ?_
      | with_reducible refine call_step (check26 (a.grow (by simp)) (bl.grow (by simp))) ?_
      | with_reducible refine call_step (works18 _) ?_
      | with_reducible refine draw_enter ?_
      | with_reducible refine q_call (large17 (a.grow (by simp)) (bl.grow (by simp))) ROk.refl ?_
      | with_reducible refine q_call (check26 (a.grow (by simp)) (bl.grow (by simp))) ROk.refl ?_
      | with_reducible refine q_call (works18 _) ROk.refl ?_
      | with_reducible exact rok_nil
      | ((with_reducible refine rok_cons ?_ ?_); (first | exact Or.inl (by decide +kernel) | exact Or.inr (by simp [bodyOf, Try.f16, bl.len, q1, q, e]) | exact Or.inr (fun hlt => by simp [kill_none, Hp.alloc_g, Nat.ne_of_lt hlt])))
      | with_reducible refine rok_and ?_ ?_
      | ((with_reducible refine eok_cons ?_ ?_); (first | exact Or.inl (by decide +kernel) | exact Or.inr (by simp [bodyOf, Try.f16, bl.len, q1, q, e]) | exact Or.inr (fun hlt => by simp [kill_none, Hp.alloc_g, Nat.ne_of_lt hlt])))
      | with_reducible refine eok_and ?_ ?_
      | simp -implicitDefEqProofs [bodyOf, Try.f16, bl.len, q1, q, e])
  have w := bkOk_iff.1 e
  have hvr := hw.vr
  have hvo := hc.vr
  by_cases qa : ws.length = l.length
  case neg =>
    repeat (first
      | with_reducible refine call_step (large17 (a.grow (by simp)) (bl.grow (by simp))) ?_
      | with_reducible refine call_step (check26 (a.grow (by simp)) (bl.grow (by simp))) ?_
      | with_reducible refine call_step (works18 _) ?_
      | with_reducible refine draw_enter ?_
      | with_reducible refine q_call (large17 (a.grow (by simp)) (bl.grow (by simp))) ROk.refl ?_
      | with_reducible refine q_call (check26 (a.grow (by simp)) (bl.grow (by simp))) ROk.refl ?_
      | with_reducible refine q_call (works18 _) ROk.refl ?_
      | with_reducible exact rok_nil
      | ((with_reducible refine rok_cons ?_ ?_); (first | exact Or.inl (by decide +kernel) | exact Or.inr (by simp [bodyOf, Try.f16, bl.len, q1, q, e, hvr, hvr.up, hvo, hvo.up, hw.len, qa]) | exact Or.inr (fun hlt => by simp [kill_none, Hp.alloc_g, Nat.ne_of_lt hlt])))
      | with_reducible refine rok_and ?_ ?_
      | ((with_reducible refine eok_cons ?_ ?_); (first | exact Or.inl (by decide +kernel) | exact Or.inr (by simp [bodyOf, Try.f16, bl.len, q1, q, e, hvr, hvr.up, hvo, hvo.up, hw.len, qa]) | exact Or.inr (fun hlt => by simp [kill_none, Hp.alloc_g, Nat.ne_of_lt hlt])))
      | with_reducible refine eok_and ?_ ?_
      | simp -implicitDefEqProofs [bodyOf, Try.f16, bl.len, q1, q, e, hvr, hvr.up, hvo, hvo.up, hw.len, qa])
  have hwl := hw.len
  rw [qa] at hwl
  repeat (first
    | with_reducible refine call_step (large17 (a.grow (by simp)) (bl.grow (by simp))) ?_
    | with_reducible refine call_step (check26 (a.grow (by simp)) (bl.grow (by simp))) ?_
    | ((with_reducible refine call_step' (choose46 (a.grow (by simp)) (bl.grow (by simp)) (hw.grow (by simp)) (Or.inl (by omega))) ?_); rintro v1 h1 ⟨sl1, rfl, g1, s1⟩)
    | with_reducible refine draw_enter ?_
    | with_reducible refine q_call (large17 (a.grow (by simp)) (bl.grow (by simp))) ROk.refl ?_
    | with_reducible refine q_call (check26 (a.grow (by simp)) (bl.grow (by simp))) ROk.refl ?_
    | with_reducible exact rok_nil
    | ((with_reducible refine rok_cons ?_ ?_); (first | exact Or.inl (by decide +kernel) | exact Or.inr (by simp [bodyOf, Try.f16, bl.len, q1, q, e, hvr, hvr.up, hvo, hvo.up, hwl]) | exact Or.inr (fun hlt => by simp [kill_none, Hp.alloc_g, Nat.ne_of_lt hlt])))
    | with_reducible refine rok_and ?_ ?_
    | ((with_reducible refine eok_cons ?_ ?_); (first | exact Or.inl (by decide +kernel) | exact Or.inr (by simp [bodyOf, Try.f16, bl.len, q1, q, e, hvr, hvr.up, hvo, hvo.up, hwl]) | exact Or.inr (fun hlt => by simp [kill_none, Hp.alloc_g, Nat.ne_of_lt hlt])))
    | with_reducible refine eok_and ?_ ?_
    | simp -implicitDefEqProofs [bodyOf, Try.f16, bl.len, q1, q, e, hvr, hvr.up, hvo, hvo.up, hwl])
  have hg : Grow h h1 := Grow.trans (by simp) g1
  have hb : h1.g h.n = .row true 3 [cv, mv, I s.cake] := by rw [g1.2 _ (by simp)]; simp
  have hx : h1.g (h.n + 1) = .row true 2 [pv, ov] := by rw [g1.2 _ (by simp)]; simp
  have hn1 : h.n + 1 < h1.n := by have := g1.1; simp at this; omega
  have hn0 : h.n < h1.n := by omega
  by_cases ec : chE s l ws = 0
  case neg =>
    repeat (first
      | with_reducible refine call_step (works18 _) ?_
      | with_reducible refine draw_enter ?_
      | with_reducible refine q_call (works18 _) ROk.refl ?_
      | with_reducible exact rok_nil
      | ((with_reducible refine rok_cons ?_ ?_); (first | exact Or.inl (by decide +kernel) | exact Or.inr (by simp [ec, hg]) | exact Or.inr (fun hlt => by simp [kill_none, Hp.alloc_g, Nat.ne_of_lt hlt])))
      | with_reducible refine rok_and ?_ ?_
      | ((with_reducible refine eok_cons ?_ ?_); (first | exact Or.inl (by decide +kernel) | exact Or.inr (by simp [ec, hg]) | exact Or.inr (fun hlt => by simp [kill_none, Hp.alloc_g, Nat.ne_of_lt hlt])))
      | with_reducible refine eok_and ?_ ?_
      | simp -implicitDefEqProofs [ec, hg])
  obtain ⟨-, -, -, hv, hP⟩ := chE_zero ec
  have hl64 : l.length < 64 := by omega
  rw [hP] at s1
  rw [hP]
  have hwb := worth_best (ws := ws) w hl64
  have hwt := fun h => worth_top (ws := ws) (c := c) w hl64 h
  generalize bestTo s l ws (2 ^ l.length) = P at s1 hwb hwt
  obtain ⟨C, V⟩ := P
  dsimp only at s1 hwb hwt
  repeat (first
    | ((with_reducible refine call_step' (worth48 (a.grow hg) (bl.grow hg) (hw.grow hg) s1.sl w (by omega) qa hv) ?_); rintro v2 h2 ⟨rfl, g2⟩)
    | with_reducible refine draw_enter ?_
    | with_reducible exact rok_nil
    | ((with_reducible refine rok_cons ?_ ?_); (first | exact Or.inl (by decide +kernel) | exact Or.inr (by simp [ec, hb, hx, hn0, hn1, hvr.up]) | exact Or.inr (fun hlt => by simp [kill_none, Hp.alloc_g, Nat.ne_of_lt hlt])))
    | with_reducible refine rok_and ?_ ?_
    | ((with_reducible refine eok_cons ?_ ?_); (first | exact Or.inl (by decide +kernel) | exact Or.inr (by simp [ec, hb, hx, hn0, hn1, hvr.up]) | exact Or.inr (fun hlt => by simp [kill_none, Hp.alloc_g, Nat.ne_of_lt hlt])))
    | with_reducible refine eok_and ?_ ?_
    | simp -implicitDefEqProofs [ec, hb, hx, hn0, hn1, hvr.up])
  have hg2 : Grow h h2 := hg.trans g2
  have hb2 : h2.g h.n = .row true 3 [cv, mv, I s.cake] := by rw [g2.2 _ hn0]; exact hb
  have hx2 : h2.g (h.n + 1) = .row true 2 [pv, ov] := by rw [g2.2 _ hn1]; exact hx
  have hn2 : h.n + 1 < h2.n := by have := g2.1; omega
  have hn20 : h.n < h2.n := by omega
  repeat (first
    | ((with_reducible refine call_step' (worth48 (a.grow hg2) (bl.grow hg2) (hw.grow hg2) (hc.grow hg2) w (by omega) qa hv) ?_); rintro v3 h3 ⟨rfl, g3⟩)
    | with_reducible refine draw_enter ?_
    | with_reducible exact rok_nil
    | ((with_reducible refine rok_cons ?_ ?_); (first | exact Or.inl (by decide +kernel) | exact Or.inr (by simp [hwb, hb2, hx2, hn20, hn2, hvr.up, hvo.up]) | exact Or.inr (fun hlt => by simp [kill_none, Hp.alloc_g, Nat.ne_of_lt hlt])))
    | with_reducible refine rok_and ?_ ?_
    | ((with_reducible refine eok_cons ?_ ?_); (first | exact Or.inl (by decide +kernel) | exact Or.inr (by simp [hwb, hb2, hx2, hn20, hn2, hvr.up, hvo.up]) | exact Or.inr (fun hlt => by simp [kill_none, Hp.alloc_g, Nat.ne_of_lt hlt])))
    | with_reducible refine eok_and ?_ ?_
    | simp -implicitDefEqProofs [hwb, hb2, hx2, hn20, hn2, hvr.up, hvo.up])
  have hg3 : Grow h h3 := hg2.trans g3
  have hx3 : h3.g (h.n + 1) = .row true 2 [pv, ov] := by rw [g3.2 _ hn2]; exact hx2
  have hn3 : h.n + 1 < h3.n := by have := g3.1; omega
  generalize worthP s l ws c = W at hwt
  obtain ⟨x, ok⟩ := W
  dsimp only at hwt
  cases ok with
  | false =>
    repeat (first
      | with_reducible refine call_step (works18 _) ?_
      | with_reducible refine draw_enter ?_
      | with_reducible refine q_call (works18 _) ROk.refl ?_
      | with_reducible exact rok_nil
      | ((with_reducible refine rok_cons ?_ ?_); (first | exact Or.inl (by decide +kernel) | exact Or.inr (by simp [hg3]) | exact Or.inr (fun hlt => by simp [kill_none, Hp.alloc_g, Nat.ne_of_lt hlt])))
      | with_reducible refine rok_and ?_ ?_
      | ((with_reducible refine eok_cons ?_ ?_); (first | exact Or.inl (by decide +kernel) | exact Or.inr (by simp [hg3]) | exact Or.inr (fun hlt => by simp [kill_none, Hp.alloc_g, Nat.ne_of_lt hlt])))
      | with_reducible refine eok_and ?_ ?_
      | simp -implicitDefEqProofs [hg3])
  | true =>
  rcases hwt rfl with h1 | ⟨rfl, h2⟩
  ·
    repeat (first
      | with_reducible refine call_step (works18 _) ?_
      | with_reducible refine draw_enter ?_
      | with_reducible refine q_call (works18 _) ROk.refl ?_
      | with_reducible exact rok_nil
      | ((with_reducible refine rok_cons ?_ ?_); (first | exact Or.inl (by decide +kernel) | exact Or.inr (by simp [h1, hg3]) | exact Or.inr (fun hlt => by simp [kill_none, Hp.alloc_g, Nat.ne_of_lt hlt])))
      | with_reducible refine rok_and ?_ ?_
      | ((with_reducible refine eok_cons ?_ ?_); (first | exact Or.inl (by decide +kernel) | exact Or.inr (by simp [h1, hg3]) | exact Or.inr (fun hlt => by simp [kill_none, Hp.alloc_g, Nat.ne_of_lt hlt])))
      | with_reducible refine eok_and ?_ ?_
      | simp -implicitDefEqProofs [h1, hg3])
  ·
    repeat (first
      | with_reducible refine call_step (works18 _) ?_
      | with_reducible refine draw_enter ?_
      | with_reducible refine q_call (works18 _) ROk.refl ?_
      | with_reducible exact rok_nil
      | ((with_reducible refine rok_cons ?_ ?_); (first | exact Or.inl (by decide +kernel) | exact Or.inr (by simp [hx3, hn3, hvo.up, hc.len, s1.sl.len, h2, hg3]) | exact Or.inr (fun hlt => by simp [kill_none, Hp.alloc_g, Nat.ne_of_lt hlt])))
      | with_reducible refine rok_and ?_ ?_
      | ((with_reducible refine eok_cons ?_ ?_); (first | exact Or.inl (by decide +kernel) | exact Or.inr (by simp [hx3, hn3, hvo.up, hc.len, s1.sl.len, h2, hg3]) | exact Or.inr (fun hlt => by simp [kill_none, Hp.alloc_g, Nat.ne_of_lt hlt])))
      | with_reducible refine eok_and ?_ ?_
      | simp -implicitDefEqProofs [hx3, hn3, hvo.up, hc.len, s1.sl.len, h2, hg3])
end Go.Proofs
