/- Part of the proofs of the laws (see the last text of a claim): contracts of functions, and what they are shown with. -/
import Derived.Test.YtmbjfekagoepgaaBh
set_option linter.unusedSimpArgs false
set_option linter.unusedVariables false
open Go Go.Fw
namespace Go.Proofs
attribute [local irreducible] Run RunOps RunDraw pop condK guardK guardKD resK drawK RunD dK Fw.gK
set_option maxRecDepth 4000
def atStart (b : Bkg) (t : Int) : Bkg := ⟨b.chamber, t, b.size, b.tongue, b.birthday, b.rival⟩
def from0 (b : Bkg) : Int := if 0 < b.start then b.start else 0
theorem from0_le {b : Bkg} : 0 ≤ from0 b ∧ b.start ≤ from0 b := by unfold from0; split <;> omega
def canAt (s : House) (l : List Bkg) (b : Bkg) (i : Nat) : Bool := decide (addE s l (atStart b (from0 b + i)) = 0)
def soonO (s : House) (l : List Bkg) (b : Bkg) : Option Nat := (List.range (1441 - from0 b).toNat).find? (canAt s l b)
def soonE (s : House) (l : List Bkg) (b : Bkg) : Int := if errBegin s l 1 = 0 then (if (soonO s l b).isSome then 0 else 3) else errBegin s l 1
def soonV (s : House) (l : List Bkg) (b : Bkg) : Int := if errBegin s l 1 = 0 then (match soonO s l b with | some i => from0 b + i | none => 0) else 0
theorem soon_hit {s : House} {l : List Bkg} {b : Bkg} {i : Nat} (hi : i < (1441 - from0 b).toNat) (h : canAt s l b i = true) (hall : ∀ j, j < i → canAt s l b j = false) : soonO s l b = some i := by
  unfold soonO
  rw [List.find?_eq_some_iff_getElem]
  exact ⟨h, i, by simpa using hi, by simp, fun j hj => by simp [hall j hj]⟩
theorem soon_miss {s : House} {l : List Bkg} {b : Bkg} (hall : ∀ j, j < (1441 - from0 b).toNat → canAt s l b j = false) : soonO s l b = none := by
  unfold soonO
  rw [List.find?_eq_none]
  intro j hj
  simp [hall j (List.mem_range.1 hj)]
theorem ok22 : codeOk Try.f22.ntmps (bodyOf Try.f22) = true := by kernel_rfl
theorem soonest22 {h : Hp} {cv mv lv : Value} {s : House} {l : List Bkg} {b : Bkg} (a : HouseAt h cv mv s) (bl : BksAt h lv l) (hl : errCheck s l = 0 → l.length < 19) :
    CallX Try.prog 22 #[.agg #[cv, mv, I s.cake], lv, .agg b.cells.toArray] h (.tuple #[I (soonV s l b), I (soonE s l b)]) h := by
  refine run_flat Tok hm Try.func22 (by kernel_rfl) (by kernel_rfl) ok22 (Nat.le_of_ble_eq_true rfl) ?_
  by_cases e : errBegin s l 1 = 0
  case neg =>
    repeat (first
      | with_reducible refine call_step (begin50 (k := 1) (a.grow (by simp)) (bl.grow (by simp)) (by omega)) ?_
      | with_reducible refine draw_enter ?_
      | with_reducible refine q_call (begin50 (k := 1) (a.grow (by simp)) (bl.grow (by simp)) (by omega)) ROk.refl ?_
      | with_reducible exact rok_nil
      | ((with_reducible refine rok_cons ?_ ?_); (first | exact Or.inl (by decide +kernel) | exact Or.inr (by simp [bodyOf, Try.f22, e, soonV, soonE]) | exact Or.inr (fun hlt => by simp [kill_none, Hp.alloc_g, Nat.ne_of_lt hlt])))
      | with_reducible refine rok_and ?_ ?_
      | ((with_reducible refine eok_cons ?_ ?_); (first | exact Or.inl (by decide +kernel) | exact Or.inr (by simp [bodyOf, Try.f22, e, soonV, soonE]) | exact Or.inr (fun hlt => by simp [kill_none, Hp.alloc_g, Nat.ne_of_lt hlt])))
      | with_reducible refine eok_and ?_ ?_
      | simp -implicitDefEqProofs [bodyOf, Try.f22, e, soonV, soonE])
  have hmx : (if 0 < b.start then b.start else 0) = from0 b := rfl
  repeat (first
    | with_reducible refine call_step (begin50 (k := 1) (a.grow (by simp)) (bl.grow (by simp)) (by omega)) ?_
    | with_reducible refine draw_enter ?_
    | with_reducible refine q_call (begin50 (k := 1) (a.grow (by simp)) (bl.grow (by simp)) (by omega)) ROk.refl ?_
    | with_reducible exact rok_nil
    | ((with_reducible refine rok_cons ?_ ?_); (first | exact Or.inl (by decide +kernel) | exact Or.inr (by simp [bodyOf, Try.f22, e, hmx]) | exact Or.inr (fun hlt => by simp [kill_none, Hp.alloc_g, Nat.ne_of_lt hlt])))
    | with_reducible refine rok_and ?_ ?_
    | ((with_reducible refine eok_cons ?_ ?_); (first | exact Or.inl (by decide +kernel) | exact Or.inr (by simp [bodyOf, Try.f22, e, hmx]) | exact Or.inr (fun hlt => by simp [kill_none, Hp.alloc_g, Nat.ne_of_lt hlt])))
    | with_reducible refine eok_and ?_ ?_
    | simp -implicitDefEqProofs [bodyOf, Try.f22, e, hmx])
  obtain ⟨f0, f1⟩ := from0_le (b := b)
  obtain ⟨N, hN⟩ : ∃ N, N = (1441 - from0 b).toNat := ⟨_, rfl⟩
  refine run_for Tok hm (by kernel_rfl) [6, 7, 9, 10, 11, 21, 22, 23, 24, 25, 26, 27, 28, 29, 30, 31, 32, 33, 34, 35, 36] (by kernel_rfl) (h.n + 1) N (fun i f h1 => f 9 = I (from0 b + i) ∧ h.n + 1 < h1.n ∧ (∃ x, h1.g (h.n + 1) = .row true 6 [I b.chamber, I x, I b.size, I b.tongue, .bool b.birthday, I b.rival]) ∧ ∀ j, j < i → canAt s l b j = false) ?_ ?_ ?_
  · exact ⟨by simp [hmx], by simp, ⟨b.start, by simp⟩, fun j hj => absurd hj (by omega)⟩
  · rintro i f h1 hi ⟨h9, hn, ⟨x, hx⟩, hall⟩ fr hu
    have hg : Grow h h1 := hu.grow (by simp) (by simp)
    have hrow : h1.g h.n = .row true 3 [cv, mv, I s.cake] := by rw [hu.2 _ (by simp)]; simp
    have hn0 : h.n < h1.n := by omega
    have hc : from0 b + (i : Int) ≤ 1440 := by omega
    have hw : IntKind.i64.wrap (from0 b + (i : Int) + 1) = from0 b + ((i + 1 : Nat) : Int) := by rw [IntWalk.i64_in _ (by omega)]; omega
    have hgs : ∀ o, Grow h (h1.set (h.n + 1) o) := fun o => hg.set (by omega)
    have hca : ∃ v h', CallX Try.prog 19 #[.agg #[cv, mv, I s.cake], lv, .agg #[I b.chamber, I (from0 b + i), I b.size, I b.tongue, .bool b.birthday, I b.rival]] (h1.set (h.n + 1) (.row true 6 [I b.chamber, I (from0 b + i), I b.size, I b.tongue, .bool b.birthday, I b.rival])) v h' ∧ GivesBk (h1.set (h.n + 1) (.row true 6 [I b.chamber, I (from0 b + i), I b.size, I b.tongue, .bool b.birthday, I b.rival])) (addE s l (atStart b (from0 b + i))) (addL s l (atStart b (from0 b + i))) v h' :=
      add19 (b := atStart b (from0 b + i)) (a.grow (hgs _)) (bl.grow (hgs _)) hl
    repeat (first
      | ((with_reducible refine call_step' (hca) ?_); rintro v2 h2 ⟨sl, rfl, g2, s2⟩)
      | with_reducible exact rok_nil
      | ((with_reducible refine rok_cons ?_ ?_); (first | exact Or.inl (by decide +kernel) | exact Or.inr (by simp [h9, fr, hc, hrow, hx, hn, hn0]) | exact Or.inr (fun hlt => by simp [kill_none, Hp.alloc_g, Nat.ne_of_lt hlt])))
      | with_reducible refine rok_and ?_ ?_
      | ((with_reducible refine eok_cons ?_ ?_); (first | exact Or.inl (by decide +kernel) | exact Or.inr (by simp [h9, fr, hc, hrow, hx, hn, hn0]) | exact Or.inr (fun hlt => by simp [kill_none, Hp.alloc_g, Nat.ne_of_lt hlt])))
      | with_reducible refine eok_and ?_ ?_
      | simp -implicitDefEqProofs [h9, fr, hc, hrow, hx, hn, hn0])
    have hn2 := g2.1
    simp only [Hp.set_n] at hn2
    have u2 : Upto (h.n + 1) h1 h2 := ⟨hn2, fun k hk => by rw [g2.2 k (by simp; omega), Hp.set_g, if_neg (by omega)]⟩
    have hr2 : h2.g (h.n + 1) = .row true 6 [I b.chamber, I (from0 b + i), I b.size, I b.tongue, .bool b.birthday, I b.rival] := by rw [g2.2 _ (by simpa using hn), Hp.set_g, if_pos rfl]
    have hn3 : h.n + 1 < h2.n := by omega
    by_cases q : addE s l (atStart b (from0 b + i)) = 0
    · have hso := soon_hit (i := i) (by omega) (decide_eq_true q) hall
      have hg2 : Grow h h2 := u2.grow hg (by omega)
      repeat (first
        | with_reducible refine draw_enter ?_
        | with_reducible exact rok_nil
        | ((with_reducible refine rok_cons ?_ ?_); (first | exact Or.inl (by decide +kernel) | exact Or.inr (by simp [fr, h9, q, soonV, soonE, e, hso, hg2]) | exact Or.inr (fun hlt => by simp [kill_none, Hp.alloc_g, Nat.ne_of_lt hlt])))
        | with_reducible refine rok_and ?_ ?_
        | ((with_reducible refine eok_cons ?_ ?_); (first | exact Or.inl (by decide +kernel) | exact Or.inr (by simp [fr, h9, q, soonV, soonE, e, hso, hg2]) | exact Or.inr (fun hlt => by simp [kill_none, Hp.alloc_g, Nat.ne_of_lt hlt])))
        | with_reducible refine eok_and ?_ ?_
        | simp -implicitDefEqProofs [fr, h9, q, soonV, soonE, e, hso, hg2])
    ·
      repeat (first
        | with_reducible refine draw_enter ?_
        | with_reducible exact rok_nil
        | ((with_reducible refine rok_cons ?_ ?_); (first | exact Or.inl (by decide +kernel) | exact Or.inr (by simp [fr, h9, q, hw, u2, hn3, hr2]) | exact Or.inr (fun hlt => by simp [kill_none, Hp.alloc_g, Nat.ne_of_lt hlt])))
        | with_reducible refine rok_and ?_ ?_
        | ((with_reducible refine eok_cons ?_ ?_); (first | exact Or.inl (by decide +kernel) | exact Or.inr (by simp [fr, h9, q, hw, u2, hn3, hr2]) | exact Or.inr (fun hlt => by simp [kill_none, Hp.alloc_g, Nat.ne_of_lt hlt])))
        | with_reducible refine eok_and ?_ ?_
        | simp -implicitDefEqProofs [fr, h9, q, hw, u2, hn3, hr2])
      exact all_succ hall (decide_eq_false q)
  · rintro f h1 ⟨h9, hn, ⟨x, hx⟩, hall⟩ fr hu
    have hg : Grow h h1 := hu.grow (by simp) (by simp)
    have hc : ¬ (from0 b + (N : Int) ≤ 1440) := by omega
    have hso := soon_miss (hN ▸ hall)
    repeat (first
      | with_reducible refine draw_enter ?_
      | with_reducible exact rok_nil
      | ((with_reducible refine rok_cons ?_ ?_); (first | exact Or.inl (by decide +kernel) | exact Or.inr (by simp [h9, fr, hc, hg, soonV, soonE, e, hso]) | exact Or.inr (fun hlt => by simp [kill_none, Hp.alloc_g, Nat.ne_of_lt hlt])))
      | with_reducible refine rok_and ?_ ?_
      | ((with_reducible refine eok_cons ?_ ?_); (first | exact Or.inl (by decide +kernel) | exact Or.inr (by simp [h9, fr, hc, hg, soonV, soonE, e, hso]) | exact Or.inr (fun hlt => by simp [kill_none, Hp.alloc_g, Nat.ne_of_lt hlt])))
      | with_reducible refine eok_and ?_ ?_
      | simp -implicitDefEqProofs [h9, fr, hc, hg, soonV, soonE, e, hso])
theorem ok23 : codeOk Try.f23.ntmps (bodyOf Try.f23) = true := by kernel_rfl
theorem soonest23 {h : Hp} {cv mv lv : Value} {s : House} {l : List Bkg} {b : Bkg} (a : HouseAt h cv mv s) (bl : BksAt h lv l) :
    CallX Try.prog 23 #[.agg #[cv, mv, I s.cake], lv, .agg b.cells.toArray] h (.tuple #[I (soonV s l b), I (soonE s l b)]) h := by
  refine run_flat Tok hm Try.func23 (by kernel_rfl) (by kernel_rfl) ok23 (Nat.le_of_ble_eq_true rfl) ?_
  by_cases e : errBegin s l 1 = 0
  case neg =>
    repeat (first
      | with_reducible refine call_step (begin52 (k := 1) (a.grow (by simp)) (bl.grow (by simp)) (by omega)) ?_
      | with_reducible refine draw_enter ?_
      | with_reducible refine q_call (begin52 (k := 1) (a.grow (by simp)) (bl.grow (by simp)) (by omega)) ROk.refl ?_
      | with_reducible exact rok_nil
      | ((with_reducible refine rok_cons ?_ ?_); (first | exact Or.inl (by decide +kernel) | exact Or.inr (by simp [bodyOf, Try.f23, e, soonV, soonE]) | exact Or.inr (fun hlt => by simp [kill_none, Hp.alloc_g, Nat.ne_of_lt hlt])))
      | with_reducible refine rok_and ?_ ?_
      | ((with_reducible refine eok_cons ?_ ?_); (first | exact Or.inl (by decide +kernel) | exact Or.inr (by simp [bodyOf, Try.f23, e, soonV, soonE]) | exact Or.inr (fun hlt => by simp [kill_none, Hp.alloc_g, Nat.ne_of_lt hlt])))
      | with_reducible refine eok_and ?_ ?_
      | simp -implicitDefEqProofs [bodyOf, Try.f23, e, soonV, soonE])
  have hmx : (if b.start < 0 then 0 else b.start) = from0 b := by unfold from0; split <;> split <;> omega
  repeat (first
    | with_reducible refine call_step (begin52 (k := 1) (a.grow (by simp)) (bl.grow (by simp)) (by omega)) ?_
    | with_reducible refine draw_enter ?_
    | with_reducible refine q_call (begin52 (k := 1) (a.grow (by simp)) (bl.grow (by simp)) (by omega)) ROk.refl ?_
    | with_reducible exact rok_nil
    | ((with_reducible refine rok_cons ?_ ?_); (first | exact Or.inl (by decide +kernel) | exact Or.inr (by simp [bodyOf, Try.f23, e, hmx]) | exact Or.inr (fun hlt => by simp [kill_none, Hp.alloc_g, Nat.ne_of_lt hlt])))
    | with_reducible refine rok_and ?_ ?_
    | ((with_reducible refine eok_cons ?_ ?_); (first | exact Or.inl (by decide +kernel) | exact Or.inr (by simp [bodyOf, Try.f23, e, hmx]) | exact Or.inr (fun hlt => by simp [kill_none, Hp.alloc_g, Nat.ne_of_lt hlt])))
    | with_reducible refine eok_and ?_ ?_
    | simp -implicitDefEqProofs [bodyOf, Try.f23, e, hmx])
  obtain ⟨f0, f1⟩ := from0_le (b := b)
  obtain ⟨N, hN⟩ : ∃ N, N = (1441 - from0 b).toNat := ⟨_, rfl⟩
  refine run_for Tok hm (by kernel_rfl) [6, 7, 9, 10, 11, 21, 22, 23, 24, 25, 26, 27, 28, 29, 30, 31, 32, 33, 34, 35, 36] (by kernel_rfl) (h.n + 1) N (fun i f h1 => f 9 = I (from0 b + i) ∧ h.n + 1 < h1.n ∧ (∃ x, h1.g (h.n + 1) = .row true 6 [I b.chamber, I x, I b.size, I b.tongue, .bool b.birthday, I b.rival]) ∧ ∀ j, j < i → canAt s l b j = false) ?_ ?_ ?_
  · exact ⟨by simp [hmx], by simp, ⟨b.start, by simp⟩, fun j hj => absurd hj (by omega)⟩
  · rintro i f h1 hi ⟨h9, hn, ⟨x, hx⟩, hall⟩ fr hu
    have hg : Grow h h1 := hu.grow (by simp) (by simp)
    have hrow : h1.g h.n = .row true 3 [cv, mv, I s.cake] := by rw [hu.2 _ (by simp)]; simp
    have hn0 : h.n < h1.n := by omega
    have hc : from0 b + (i : Int) ≤ 1440 := by omega
    have hw : IntKind.i64.wrap (from0 b + (i : Int) + 1) = from0 b + ((i + 1 : Nat) : Int) := by rw [IntWalk.i64_in _ (by omega)]; omega
    have hgs : ∀ o, Grow h (h1.set (h.n + 1) o) := fun o => hg.set (by omega)
    have hca : ∃ v h', CallX Try.prog 20 #[.agg #[cv, mv, I s.cake], lv, .agg #[I b.chamber, I (from0 b + i), I b.size, I b.tongue, .bool b.birthday, I b.rival]] (h1.set (h.n + 1) (.row true 6 [I b.chamber, I (from0 b + i), I b.size, I b.tongue, .bool b.birthday, I b.rival])) v h' ∧ GivesBk (h1.set (h.n + 1) (.row true 6 [I b.chamber, I (from0 b + i), I b.size, I b.tongue, .bool b.birthday, I b.rival])) (addE s l (atStart b (from0 b + i))) (addL s l (atStart b (from0 b + i))) v h' :=
      add20 (b := atStart b (from0 b + i)) (a.grow (hgs _)) (bl.grow (hgs _))
    repeat (first
      | ((with_reducible refine call_step' (hca) ?_); rintro v2 h2 ⟨sl, rfl, g2, s2⟩)
      | with_reducible exact rok_nil
      | ((with_reducible refine rok_cons ?_ ?_); (first | exact Or.inl (by decide +kernel) | exact Or.inr (by simp [h9, fr, hc, hrow, hx, hn, hn0]) | exact Or.inr (fun hlt => by simp [kill_none, Hp.alloc_g, Nat.ne_of_lt hlt])))
      | with_reducible refine rok_and ?_ ?_
      | ((with_reducible refine eok_cons ?_ ?_); (first | exact Or.inl (by decide +kernel) | exact Or.inr (by simp [h9, fr, hc, hrow, hx, hn, hn0]) | exact Or.inr (fun hlt => by simp [kill_none, Hp.alloc_g, Nat.ne_of_lt hlt])))
      | with_reducible refine eok_and ?_ ?_
      | simp -implicitDefEqProofs [h9, fr, hc, hrow, hx, hn, hn0])
    have hn2 := g2.1
    simp only [Hp.set_n] at hn2
    have u2 : Upto (h.n + 1) h1 h2 := ⟨hn2, fun k hk => by rw [g2.2 k (by simp; omega), Hp.set_g, if_neg (by omega)]⟩
    have hr2 : h2.g (h.n + 1) = .row true 6 [I b.chamber, I (from0 b + i), I b.size, I b.tongue, .bool b.birthday, I b.rival] := by rw [g2.2 _ (by simpa using hn), Hp.set_g, if_pos rfl]
    have hn3 : h.n + 1 < h2.n := by omega
    by_cases q : addE s l (atStart b (from0 b + i)) = 0
    · have hso := soon_hit (i := i) (by omega) (decide_eq_true q) hall
      have hg2 : Grow h h2 := u2.grow hg (by omega)
      repeat (first
        | with_reducible refine draw_enter ?_
        | with_reducible exact rok_nil
        | ((with_reducible refine rok_cons ?_ ?_); (first | exact Or.inl (by decide +kernel) | exact Or.inr (by simp [fr, h9, q, soonV, soonE, e, hso, hg2]) | exact Or.inr (fun hlt => by simp [kill_none, Hp.alloc_g, Nat.ne_of_lt hlt])))
        | with_reducible refine rok_and ?_ ?_
        | ((with_reducible refine eok_cons ?_ ?_); (first | exact Or.inl (by decide +kernel) | exact Or.inr (by simp [fr, h9, q, soonV, soonE, e, hso, hg2]) | exact Or.inr (fun hlt => by simp [kill_none, Hp.alloc_g, Nat.ne_of_lt hlt])))
        | with_reducible refine eok_and ?_ ?_
        | simp -implicitDefEqProofs [fr, h9, q, soonV, soonE, e, hso, hg2])
    ·
      repeat (first
        | with_reducible refine draw_enter ?_
        | with_reducible exact rok_nil
        | ((with_reducible refine rok_cons ?_ ?_); (first | exact Or.inl (by decide +kernel) | exact Or.inr (by simp [fr, h9, q, hw, u2, hn3, hr2]) | exact Or.inr (fun hlt => by simp [kill_none, Hp.alloc_g, Nat.ne_of_lt hlt])))
        | with_reducible refine rok_and ?_ ?_
        | ((with_reducible refine eok_cons ?_ ?_); (first | exact Or.inl (by decide +kernel) | exact Or.inr (by simp [fr, h9, q, hw, u2, hn3, hr2]) | exact Or.inr (fun hlt => by simp [kill_none, Hp.alloc_g, Nat.ne_of_lt hlt])))
        | with_reducible refine eok_and ?_ ?_
        | simp -implicitDefEqProofs [fr, h9, q, hw, u2, hn3, hr2])
      exact all_succ hall (decide_eq_false q)
  · rintro f h1 ⟨h9, hn, ⟨x, hx⟩, hall⟩ fr hu
    have hg : Grow h h1 := hu.grow (by simp) (by simp)
    have hc : ¬ (from0 b + (N : Int) ≤ 1440) := by omega
    have hso := soon_miss (hN ▸ hall)
    repeat (first
      | with_reducible refine draw_enter ?_
      | with_reducible exact rok_nil
      | ((with_reducible refine rok_cons ?_ ?_); (first | exact Or.inl (by decide +kernel) | exact Or.inr (by simp [h9, fr, hc, hg, soonV, soonE, e, hso]) | exact Or.inr (fun hlt => by simp [kill_none, Hp.alloc_g, Nat.ne_of_lt hlt])))
      | with_reducible refine rok_and ?_ ?_
      | ((with_reducible refine eok_cons ?_ ?_); (first | exact Or.inl (by decide +kernel) | exact Or.inr (by simp [h9, fr, hc, hg, soonV, soonE, e, hso]) | exact Or.inr (fun hlt => by simp [kill_none, Hp.alloc_g, Nat.ne_of_lt hlt])))
      | with_reducible refine eok_and ?_ ?_
      | simp -implicitDefEqProofs [h9, fr, hc, hg, soonV, soonE, e, hso])
end Go.Proofs

set_option linter.unusedSimpArgs false
set_option linter.unusedVariables false
open Go Go.Fw
namespace Go.Proofs
attribute [local irreducible] Run RunOps RunDraw pop condK guardK guardKD resK drawK RunD dK Fw.gK
set_option maxRecDepth 4000
def exH : House := ⟨[⟨2, 6, 60, 20⟩, ⟨3, 8, 45, 15⟩], [⟨1, 600, 900⟩, ⟨3, 600, 1200⟩], 30⟩
def exL : List Bkg := [⟨0, 600, 4, 0, true, -1⟩, ⟨1, 630, 5, 1, false, -1⟩]
def exB : Bkg := ⟨0, 600, 2, 1, false, -1⟩
theorem ex_staffE : errStaff exH exL = 0 := by decide +kernel
theorem ex_staffL : staffOf exH exL = [0, 1] := by decide +kernel
theorem ex_soonE : soonE exH exL exB = 0 := by decide +kernel
theorem ex_soonV : soonV exH exL exB = 710 := by decide +kernel
theorem ok49 : codeOk Try.f49.ntmps (bodyOf Try.f49) = true := by kernel_rfl
theorem example49 (h : Hp) : ∃ v h', CallX Try.prog 49 #[] h v h' ∧ ∃ cv mv lv, v = .tuple #[.agg #[cv, mv, I 30], lv] ∧ Grow h h' ∧ HouseAt h' cv mv exH ∧ BksAt h' lv exL := by
  refine run_any Tok hm Try.func49 (by kernel_rfl) (by kernel_rfl) ok49 (Nat.le_of_ble_eq_true rfl) ?_
  have hr2 : [0, 1] = List.range 2 := rfl
  repeat (first
    | with_reducible refine draw_enter ?_
    | with_reducible exact rok_nil
    | ((with_reducible refine rok_cons ?_ ?_); (first | exact Or.inl (by decide +kernel) | exact Or.inr (by simp [bodyOf, Try.f49, hr2]) | exact Or.inr (fun hlt => by simp [kill_none, Hp.alloc_g, Nat.ne_of_lt hlt])))
    | with_reducible refine rok_and ?_ ?_
    | ((with_reducible refine eok_cons ?_ ?_); (first | exact Or.inl (by decide +kernel) | exact Or.inr (by simp [bodyOf, Try.f49, hr2]) | exact Or.inr (fun hlt => by simp [kill_none, Hp.alloc_g, Nat.ne_of_lt hlt])))
    | with_reducible refine eok_and ?_ ?_
    | simp -implicitDefEqProofs [bodyOf, Try.f49, hr2])
  exact ⟨_, _, _, ⟨⟨rfl, rfl⟩, rfl⟩, ⟨SlOk.own (own := true) (q := 4) (by simp) (by simp; rfl) rfl (Nat.le_refl _), SlOk.own (own := true) (q := 3) (by simp) (by simp; rfl) rfl (Nat.le_refl _)⟩, SlOk.own (own := true) (q := 6) (by simp) (by simp; rfl) rfl (Nat.le_refl _)⟩
theorem ok18 : codeOk Try.f18.ntmps (bodyOf Try.f18) = true := by kernel_rfl
theorem works18 (h : Hp) : CallX Try.prog 18 #[] h (.bool true) h := by
  refine run_flat Tok hm Try.func18 (by kernel_rfl) (by kernel_rfl) ok18 (Nat.le_of_ble_eq_true rfl) ?_
  have hr2 : [0, 1] = List.range 2 := rfl
  repeat (first
    | ((with_reducible refine call_step' (example49 _) ?_); rintro v1 h1 ⟨cv, mv, lv, rfl, g1, a1, b1⟩)
    | with_reducible refine draw_enter ?_
    | with_reducible exact rok_nil
    | ((with_reducible refine rok_cons ?_ ?_); (first | exact Or.inl (by decide +kernel) | exact Or.inr (by simp [bodyOf, Try.f18]) | exact Or.inr (fun hlt => by simp [kill_none, Hp.alloc_g, Nat.ne_of_lt hlt])))
    | with_reducible refine rok_and ?_ ?_
    | ((with_reducible refine eok_cons ?_ ?_); (first | exact Or.inl (by decide +kernel) | exact Or.inr (by simp [bodyOf, Try.f18]) | exact Or.inr (fun hlt => by simp [kill_none, Hp.alloc_g, Nat.ne_of_lt hlt])))
    | with_reducible refine eok_and ?_ ?_
    | simp -implicitDefEqProofs [bodyOf, Try.f18])
  have hcv := a1.ch.so
  have hmv := a1.ma.so
  have hnt : notTup (.agg #[cv, mv, I 30]) = true := rfl
  have g0 : ∀ o, Grow h1 (h1.alloc o) := fun o => by simp
  have hs := fun o => staff30 (a1.grow (g0 o)) (b1.grow (g0 o)) (fun _ => by decide)
  simp only [ex_staffE, ex_staffL] at hs
  rw [show exH.cake = 30 from rfl] at hs
  repeat (first
    | ((with_reducible refine call_step' (hs _) ?_); rintro v2 h2 ⟨sl, rfl, g2, s2⟩)
    | with_reducible exact rok_nil
    | ((with_reducible refine rok_cons ?_ ?_); (first | exact Or.inl (by decide +kernel) | exact Or.inr (by simp [hcv, hmv]) | exact Or.inr (fun hlt => by simp [kill_none, Hp.alloc_g, Nat.ne_of_lt hlt])))
    | with_reducible refine rok_and ?_ ?_
    | ((with_reducible refine eok_cons ?_ ?_); (first | exact Or.inl (by decide +kernel) | exact Or.inr (by simp [hcv, hmv]) | exact Or.inr (fun hlt => by simp [kill_none, Hp.alloc_g, Nat.ne_of_lt hlt])))
    | with_reducible refine eok_and ?_ ?_
    | simp -implicitDefEqProofs [hcv, hmv])
  have hg2 : Grow h1 h2 := Grow.trans (by simp) g2
  have hrow2 : h2.g h1.n = .row true 3 [cv, mv, I 30] := by rw [g2.2 _ (by simp)]; simp
  have hlt2 : h1.n < h2.n := by have := g2.1; simp at this; omega
  have hsn : CallX Try.prog 22 #[.agg #[cv, mv, I 30], lv, .agg #[I 0, I 600, I 2, I 1, .bool false, I (-1)]] h2 (.tuple #[I 710, I 0]) h2 := by
    have := soonest22 (b := exB) (a1.grow hg2) (b1.grow hg2) (fun _ => by decide)
    rw [ex_soonE, ex_soonV] at this
    exact this
  have hsi := fun o => sameInts32 (h := h2.alloc o) (xs := [0, 1]) (ys := [0, 1]) (w := .slice (some ⟨h2.n, 0, none⟩) 2 2) (s2.sl.grow (Grow.refl.alloc))
  have hsi2 := hsi (.row true 1 [I 0, I 1]) (SlOk.own (own := true) (q := 1) (by simp) (by simp) rfl (Nat.le_refl _)) (by decide)
  simp only [decide_true] at hsi2
  have hg3 := g1.trans hg2
  repeat (first
    | with_reducible refine call_step (hsn) ?_
    | with_reducible refine call_step (hsi2) ?_
    | with_reducible refine draw_enter ?_
    | with_reducible refine q_call (hsn) ROk.refl ?_
    | with_reducible refine q_call (hsi2) ROk.refl ?_
    | with_reducible exact rok_nil
    | ((with_reducible refine rok_cons ?_ ?_); (first | exact Or.inl (by decide +kernel) | exact Or.inr (by simp [hrow2, hlt2, hr2, hg3]) | exact Or.inr (fun hlt => by simp [kill_none, Hp.alloc_g, Nat.ne_of_lt hlt])))
    | with_reducible refine rok_and ?_ ?_
    | ((with_reducible refine eok_cons ?_ ?_); (first | exact Or.inl (by decide +kernel) | exact Or.inr (by simp [hrow2, hlt2, hr2, hg3]) | exact Or.inr (fun hlt => by simp [kill_none, Hp.alloc_g, Nat.ne_of_lt hlt])))
    | with_reducible refine eok_and ?_ ?_
    | simp -implicitDefEqProofs [hrow2, hlt2, hr2, hg3])
end Go.Proofs

set_option linter.unusedSimpArgs false
set_option linter.unusedVariables false
open Go Go.Fw
namespace Go.Proofs
attribute [local irreducible] Run RunOps RunDraw pop condK guardK guardKD resK drawK RunD dK Fw.gK
set_option maxRecDepth 4000
def largeB (s : House) (l : List Bkg) : Bool := decide (8 < l.length) && decide (l.length ≤ 20) || (decide (4 < s.masters.length) && decide (s.masters.length ≤ 6))
theorem large_false {s : House} {l : List Bkg} (h : largeB s l = false) (e : errCheck s l = 0) : l.length ≤ 8 := by
  have := (bkOk_iff.1 e).l20
  simp only [largeB, Bool.or_eq_false_iff, Bool.and_eq_false_iff, decide_eq_false_iff_not] at h
  omega
theorem ok17 : codeOk Try.f17.ntmps (bodyOf Try.f17) = true := by kernel_rfl
theorem large17 {h : Hp} {cv mv lv : Value} {s : House} {l : List Bkg} (a : HouseAt h cv mv s) (b : BksAt h lv l) : CallX Try.prog 17 #[.agg #[cv, mv, I s.cake], lv] h (.bool (largeB s l)) h := by
  refine run_flat Tok hm Try.func17 (by kernel_rfl) (by kernel_rfl) ok17 (Nat.le_of_ble_eq_true rfl) ?_
  by_cases q1 : 8 < l.length <;> by_cases q2 : l.length ≤ 20 <;> by_cases q3 : 4 < s.masters.length <;> by_cases q4 : s.masters.length ≤ 6
  all_goals
    repeat (first
      | with_reducible refine draw_enter ?_
      | with_reducible exact rok_nil
      | ((with_reducible refine rok_cons ?_ ?_); (first | exact Or.inl (by decide +kernel) | exact Or.inr (by simp [bodyOf, Try.f17, a.ma.len, b.len, q1, q2, q3, q4, largeB]) | exact Or.inr (fun hlt => by simp [kill_none, Hp.alloc_g, Nat.ne_of_lt hlt])))
      | with_reducible refine rok_and ?_ ?_
      | ((with_reducible refine eok_cons ?_ ?_); (first | exact Or.inl (by decide +kernel) | exact Or.inr (by simp [bodyOf, Try.f17, a.ma.len, b.len, q1, q2, q3, q4, largeB]) | exact Or.inr (fun hlt => by simp [kill_none, Hp.alloc_g, Nat.ne_of_lt hlt])))
      | with_reducible refine eok_and ?_ ?_
      | simp -implicitDefEqProofs [bodyOf, Try.f17, a.ma.len, b.len, q1, q2, q3, q4, largeB])
theorem addL_len {s : House} {l : List Bkg} {b : Bkg} (hl : l.length ≤ 1000) : (addL s l b).length ≤ 1000000 := by
  unfold addL
  split <;> simp <;> omega
theorem duelL_len {s : House} {l : List Bkg} {x y : Bkg} (hl : l.length ≤ 1000) : (duelL s l x y).length ≤ 1000000 := by
  unfold duelL
  split <;> simp [duo] <;> omega
theorem errBegin_len {s : House} {l : List Bkg} {k : Nat} (h : errBegin s l k = 0) : l.length ≤ 1000 := by
  have := (errBegin_zero h).2.2
  omega
theorem addL_len' {s : House} {l : List Bkg} {b : Bkg} : (addL s l b).length ≤ 1000000 := by
  by_cases e : errBegin s l 1 = 0
  · exact addL_len (errBegin_len e)
  · have : addL s l b = [] := by simp [addL, addE, e]
    rw [this]; simp
theorem duelL_len' {s : House} {l : List Bkg} {x y : Bkg} : (duelL s l x y).length ≤ 1000000 := by
  by_cases e : errBegin s l 2 = 0
  · exact duelL_len (errBegin_len e)
  · have : duelL s l x y = [] := by simp [duelL, duelE, e]
    rw [this]; simp
theorem ok3 : codeOk Try.f3.ntmps (bodyOf Try.f3) = true := by kernel_rfl
theorem adds3 {h : Hp} {cv mv lv : Value} {s : House} {l : List Bkg} (a : HouseAt h cv mv s) (bl : BksAt h lv l) (b : Bkg) : CallX Try.prog 3 #[.agg #[cv, mv, I s.cake], lv, .agg b.cells.toArray] h (.bool true) h := by
  refine run_flat Tok hm Try.func3 (by kernel_rfl) (by kernel_rfl) ok3 (Nat.le_of_ble_eq_true rfl) ?_
  cases q : largeB s l with
  | true =>
    repeat (first
      | with_reducible refine call_step (large17 (a.grow (by simp)) (bl.grow (by simp))) ?_
      | with_reducible refine call_step (works18 _) ?_
      | with_reducible refine draw_enter ?_
      | with_reducible refine q_call (large17 (a.grow (by simp)) (bl.grow (by simp))) ROk.refl ?_
      | with_reducible refine q_call (works18 _) ROk.refl ?_
      | with_reducible exact rok_nil
      | ((with_reducible refine rok_cons ?_ ?_); (first | exact Or.inl (by decide +kernel) | exact Or.inr (by simp [bodyOf, Try.f3, q]) | exact Or.inr (fun hlt => by simp [kill_none, Hp.alloc_g, Nat.ne_of_lt hlt])))
      | with_reducible refine rok_and ?_ ?_
      | ((with_reducible refine eok_cons ?_ ?_); (first | exact Or.inl (by decide +kernel) | exact Or.inr (by simp [bodyOf, Try.f3, q]) | exact Or.inr (fun hlt => by simp [kill_none, Hp.alloc_g, Nat.ne_of_lt hlt])))
      | with_reducible refine eok_and ?_ ?_
      | simp -implicitDefEqProofs [bodyOf, Try.f3, q])
  | false =>
    repeat (first
      | with_reducible refine call_step (large17 (a.grow (by simp)) (bl.grow (by simp))) ?_
      | ((with_reducible refine call_step' (add19 (a.grow (by simp)) (bl.grow (by simp)) (fun e => by have := large_false q e; omega)) ?_); rintro v1 h1 ⟨sl1, rfl, g1, s1⟩)
      | with_reducible refine draw_enter ?_
      | with_reducible refine q_call (large17 (a.grow (by simp)) (bl.grow (by simp))) ROk.refl ?_
      | with_reducible exact rok_nil
      | ((with_reducible refine rok_cons ?_ ?_); (first | exact Or.inl (by decide +kernel) | exact Or.inr (by simp [bodyOf, Try.f3, q]) | exact Or.inr (fun hlt => by simp [kill_none, Hp.alloc_g, Nat.ne_of_lt hlt])))
      | with_reducible refine rok_and ?_ ?_
      | ((with_reducible refine eok_cons ?_ ?_); (first | exact Or.inl (by decide +kernel) | exact Or.inr (by simp [bodyOf, Try.f3, q]) | exact Or.inr (fun hlt => by simp [kill_none, Hp.alloc_g, Nat.ne_of_lt hlt])))
      | with_reducible refine eok_and ?_ ?_
      | simp -implicitDefEqProofs [bodyOf, Try.f3, q])
    have hg : Grow h h1 := Grow.trans (by simp) g1
    have hb : h1.g h.n = .row true 3 [cv, mv, I s.cake] := by rw [g1.2 _ (by simp <;> omega)]; simp
    have hb2 : h1.g (h.n + 1) = .row true 6 b.cells := by rw [g1.2 _ (by simp)]; simp
    have hn : h.n + 1 < h1.n := by have := g1.1; simp at this; omega
    have hn0 : h.n < h1.n := by omega
    repeat (first
      | ((with_reducible refine call_step' (add20 (a.grow hg) (bl.grow hg)) ?_); rintro v2 h2 ⟨sl2, rfl, g2, s2⟩)
      | with_reducible refine draw_enter ?_
      | with_reducible exact rok_nil
      | ((with_reducible refine rok_cons ?_ ?_); (first | exact Or.inl (by decide +kernel) | exact Or.inr (by simp [hb, hb2, hn, hn0]) | exact Or.inr (fun hlt => by simp [kill_none, Hp.alloc_g, Nat.ne_of_lt hlt])))
      | with_reducible refine rok_and ?_ ?_
      | ((with_reducible refine eok_cons ?_ ?_); (first | exact Or.inl (by decide +kernel) | exact Or.inr (by simp [hb, hb2, hn, hn0]) | exact Or.inr (fun hlt => by simp [kill_none, Hp.alloc_g, Nat.ne_of_lt hlt])))
      | with_reducible refine eok_and ?_ ?_
      | simp -implicitDefEqProofs [hb, hb2, hn, hn0])
    have hg2 : Grow h h2 := hg.trans g2
    repeat (first
      | with_reducible refine call_step (sameBks21 (s1.sl.grow g2) s2.sl addL_len') ?_
      | with_reducible refine call_step (works18 _) ?_
      | with_reducible refine draw_enter ?_
      | with_reducible refine q_call (sameBks21 (s1.sl.grow g2) s2.sl addL_len') ROk.refl ?_
      | with_reducible refine q_call (works18 _) ROk.refl ?_
      | with_reducible exact rok_nil
      | ((with_reducible refine rok_cons ?_ ?_); (first | exact Or.inl (by decide +kernel) | exact Or.inr (by simp [hg2]) | exact Or.inr (fun hlt => by simp [kill_none, Hp.alloc_g, Nat.ne_of_lt hlt])))
      | with_reducible refine rok_and ?_ ?_
      | ((with_reducible refine eok_cons ?_ ?_); (first | exact Or.inl (by decide +kernel) | exact Or.inr (by simp [hg2]) | exact Or.inr (fun hlt => by simp [kill_none, Hp.alloc_g, Nat.ne_of_lt hlt])))
      | with_reducible refine eok_and ?_ ?_
      | simp -implicitDefEqProofs [hg2])
theorem ok6 : codeOk Try.f6.ntmps (bodyOf Try.f6) = true := by kernel_rfl
theorem duels6 {h : Hp} {cv mv lv : Value} {s : House} {l : List Bkg} (a : HouseAt h cv mv s) (bl : BksAt h lv l) (x y : Bkg) : CallX Try.prog 6 #[.agg #[cv, mv, I s.cake], lv, .agg (x.cells ++ y.cells).toArray] h (.bool true) h := by
  refine run_flat Tok hm Try.func6 (by kernel_rfl) (by kernel_rfl) ok6 (Nat.le_of_ble_eq_true rfl) ?_
  cases q : largeB s l with
  | true =>
    repeat (first
      | with_reducible refine call_step (large17 (a.grow (by simp)) (bl.grow (by simp))) ?_
      | with_reducible refine call_step (works18 _) ?_
      | with_reducible refine draw_enter ?_
      | with_reducible refine q_call (large17 (a.grow (by simp)) (bl.grow (by simp))) ROk.refl ?_
      | with_reducible refine q_call (works18 _) ROk.refl ?_
      | with_reducible exact rok_nil
      | ((with_reducible refine rok_cons ?_ ?_); (first | exact Or.inl (by decide +kernel) | exact Or.inr (by simp [bodyOf, Try.f6, q]) | exact Or.inr (fun hlt => by simp [kill_none, Hp.alloc_g, Nat.ne_of_lt hlt])))
      | with_reducible refine rok_and ?_ ?_
      | ((with_reducible refine eok_cons ?_ ?_); (first | exact Or.inl (by decide +kernel) | exact Or.inr (by simp [bodyOf, Try.f6, q]) | exact Or.inr (fun hlt => by simp [kill_none, Hp.alloc_g, Nat.ne_of_lt hlt])))
      | with_reducible refine eok_and ?_ ?_
      | simp -implicitDefEqProofs [bodyOf, Try.f6, q])
  | false =>
    repeat (first
      | with_reducible refine call_step (large17 (a.grow (by simp)) (bl.grow (by simp))) ?_
      | ((with_reducible refine call_step' (duel24 (x := x) (y := y) (a.grow (by simp)) (bl.grow (by simp)) (fun e => by have := large_false q e; omega)) ?_); rintro v1 h1 ⟨sl1, rfl, g1, s1⟩)
      | with_reducible refine draw_enter ?_
      | with_reducible refine q_call (large17 (a.grow (by simp)) (bl.grow (by simp))) ROk.refl ?_
      | with_reducible exact rok_nil
      | ((with_reducible refine rok_cons ?_ ?_); (first | exact Or.inl (by decide +kernel) | exact Or.inr (by simp [bodyOf, Try.f6, q]) | exact Or.inr (fun hlt => by simp [kill_none, Hp.alloc_g, Nat.ne_of_lt hlt])))
      | with_reducible refine rok_and ?_ ?_
      | ((with_reducible refine eok_cons ?_ ?_); (first | exact Or.inl (by decide +kernel) | exact Or.inr (by simp [bodyOf, Try.f6, q]) | exact Or.inr (fun hlt => by simp [kill_none, Hp.alloc_g, Nat.ne_of_lt hlt])))
      | with_reducible refine eok_and ?_ ?_
      | simp -implicitDefEqProofs [bodyOf, Try.f6, q])
    have hg : Grow h h1 := Grow.trans (by simp) g1
    have hb : h1.g h.n = .row true 3 [cv, mv, I s.cake] := by rw [g1.2 _ (by simp <;> omega)]; simp
    have hb2 : h1.g (h.n + 1) = .row true 12 (x.cells ++ y.cells) := by rw [g1.2 _ (by simp)]; simp
    have hn : h.n + 1 < h1.n := by have := g1.1; simp at this; omega
    have hn0 : h.n < h1.n := by omega
    repeat (first
      | ((with_reducible refine call_step' (duel25 (x := x) (y := y) (a.grow hg) (bl.grow hg)) ?_); rintro v2 h2 ⟨sl2, rfl, g2, s2⟩)
      | with_reducible refine draw_enter ?_
      | with_reducible exact rok_nil
      | ((with_reducible refine rok_cons ?_ ?_); (first | exact Or.inl (by decide +kernel) | exact Or.inr (by simp [hb, hb2, hn, hn0]) | exact Or.inr (fun hlt => by simp [kill_none, Hp.alloc_g, Nat.ne_of_lt hlt])))
      | with_reducible refine rok_and ?_ ?_
      | ((with_reducible refine eok_cons ?_ ?_); (first | exact Or.inl (by decide +kernel) | exact Or.inr (by simp [hb, hb2, hn, hn0]) | exact Or.inr (fun hlt => by simp [kill_none, Hp.alloc_g, Nat.ne_of_lt hlt])))
      | with_reducible refine eok_and ?_ ?_
      | simp -implicitDefEqProofs [hb, hb2, hn, hn0])
    have hg2 : Grow h h2 := hg.trans g2
    repeat (first
      | with_reducible refine call_step (sameBks21 (s1.sl.grow g2) s2.sl duelL_len') ?_
      | with_reducible refine call_step (works18 _) ?_
      | with_reducible refine draw_enter ?_
      | with_reducible refine q_call (sameBks21 (s1.sl.grow g2) s2.sl duelL_len') ROk.refl ?_
      | with_reducible refine q_call (works18 _) ROk.refl ?_
      | with_reducible exact rok_nil
      | ((with_reducible refine rok_cons ?_ ?_); (first | exact Or.inl (by decide +kernel) | exact Or.inr (by simp [hg2]) | exact Or.inr (fun hlt => by simp [kill_none, Hp.alloc_g, Nat.ne_of_lt hlt])))
      | with_reducible refine rok_and ?_ ?_
      | ((with_reducible refine eok_cons ?_ ?_); (first | exact Or.inl (by decide +kernel) | exact Or.inr (by simp [hg2]) | exact Or.inr (fun hlt => by simp [kill_none, Hp.alloc_g, Nat.ne_of_lt hlt])))
      | with_reducible refine eok_and ?_ ?_
      | simp -implicitDefEqProofs [hg2])
theorem ok4 : codeOk Try.f4.ntmps (bodyOf Try.f4) = true := by kernel_rfl
theorem soonest4 {h : Hp} {cv mv lv : Value} {s : House} {l : List Bkg} (a : HouseAt h cv mv s) (bl : BksAt h lv l) (b : Bkg) : CallX Try.prog 4 #[.agg #[cv, mv, I s.cake], lv, .agg b.cells.toArray] h (.bool true) h := by
  refine run_flat Tok hm Try.func4 (by kernel_rfl) (by kernel_rfl) ok4 (Nat.le_of_ble_eq_true rfl) ?_
  by_cases q1 : 4 < l.length ∧ l.length ≤ 20
  ·
    repeat (first
      | with_reducible refine call_step (works18 _) ?_
      | with_reducible refine draw_enter ?_
      | with_reducible refine q_call (works18 _) ROk.refl ?_
      | with_reducible exact rok_nil
      | ((with_reducible refine rok_cons ?_ ?_); (first | exact Or.inl (by decide +kernel) | exact Or.inr (by simp [bodyOf, Try.f4, bl.len, q1.1, q1.2]) | exact Or.inr (fun hlt => by simp [kill_none, Hp.alloc_g, Nat.ne_of_lt hlt])))
      | with_reducible refine rok_and ?_ ?_
      | ((with_reducible refine eok_cons ?_ ?_); (first | exact Or.inl (by decide +kernel) | exact Or.inr (by simp [bodyOf, Try.f4, bl.len, q1.1, q1.2]) | exact Or.inr (fun hlt => by simp [kill_none, Hp.alloc_g, Nat.ne_of_lt hlt])))
      | with_reducible refine eok_and ?_ ?_
      | simp -implicitDefEqProofs [bodyOf, Try.f4, bl.len, q1.1, q1.2])
  · cases q : largeB s l with
    | true =>
      by_cases q2 : 4 < l.length
      · have q3 : ¬ l.length ≤ 20 := fun h => q1 ⟨q2, h⟩
        repeat (first
          | with_reducible refine call_step (large17 (a.grow (by simp)) (bl.grow (by simp))) ?_
          | with_reducible refine call_step (works18 _) ?_
          | with_reducible refine draw_enter ?_
          | with_reducible refine q_call (large17 (a.grow (by simp)) (bl.grow (by simp))) ROk.refl ?_
          | with_reducible refine q_call (works18 _) ROk.refl ?_
          | with_reducible exact rok_nil
          | ((with_reducible refine rok_cons ?_ ?_); (first | exact Or.inl (by decide +kernel) | exact Or.inr (by simp [bodyOf, Try.f4, bl.len, q2, q3, q]) | exact Or.inr (fun hlt => by simp [kill_none, Hp.alloc_g, Nat.ne_of_lt hlt])))
          | with_reducible refine rok_and ?_ ?_
          | ((with_reducible refine eok_cons ?_ ?_); (first | exact Or.inl (by decide +kernel) | exact Or.inr (by simp [bodyOf, Try.f4, bl.len, q2, q3, q]) | exact Or.inr (fun hlt => by simp [kill_none, Hp.alloc_g, Nat.ne_of_lt hlt])))
          | with_reducible refine eok_and ?_ ?_
          | simp -implicitDefEqProofs [bodyOf, Try.f4, bl.len, q2, q3, q])
      ·
        repeat (first
          | with_reducible refine call_step (large17 (a.grow (by simp)) (bl.grow (by simp))) ?_
          | with_reducible refine call_step (works18 _) ?_
          | with_reducible refine draw_enter ?_
          | with_reducible refine q_call (large17 (a.grow (by simp)) (bl.grow (by simp))) ROk.refl ?_
          | with_reducible refine q_call (works18 _) ROk.refl ?_
          | with_reducible exact rok_nil
          | ((with_reducible refine rok_cons ?_ ?_); (first | exact Or.inl (by decide +kernel) | exact Or.inr (by simp [bodyOf, Try.f4, bl.len, q2, q]) | exact Or.inr (fun hlt => by simp [kill_none, Hp.alloc_g, Nat.ne_of_lt hlt])))
          | with_reducible refine rok_and ?_ ?_
          | ((with_reducible refine eok_cons ?_ ?_); (first | exact Or.inl (by decide +kernel) | exact Or.inr (by simp [bodyOf, Try.f4, bl.len, q2, q]) | exact Or.inr (fun hlt => by simp [kill_none, Hp.alloc_g, Nat.ne_of_lt hlt])))
          | with_reducible refine eok_and ?_ ?_
          | simp -implicitDefEqProofs [bodyOf, Try.f4, bl.len, q2, q])
    | false =>
      have s22 := fun o1 o2 => soonest22 (b := b) (a.grow (show Grow h ((h.alloc o1).alloc o2) by simp)) (bl.grow (by simp)) (fun e => by have := large_false q e; omega)
      have s23 := fun o1 o2 => soonest23 (b := b) (a.grow (show Grow h ((h.alloc o1).alloc o2) by simp)) (bl.grow (by simp))
      by_cases q2 : 4 < l.length
      · have q3 : ¬ l.length ≤ 20 := fun h => q1 ⟨q2, h⟩
        repeat (first
          | with_reducible refine call_step (large17 (a.grow (by simp)) (bl.grow (by simp))) ?_
          | with_reducible refine call_step (s22 _ _) ?_
          | with_reducible refine call_step (s23 _ _) ?_
          | with_reducible refine call_step (works18 _) ?_
          | with_reducible refine draw_enter ?_
          | with_reducible refine q_call (large17 (a.grow (by simp)) (bl.grow (by simp))) ROk.refl ?_
          | with_reducible refine q_call (s22 _ _) ROk.refl ?_
          | with_reducible refine q_call (s23 _ _) ROk.refl ?_
          | with_reducible refine q_call (works18 _) ROk.refl ?_
          | with_reducible exact rok_nil
          | ((with_reducible refine rok_cons ?_ ?_); (first | exact Or.inl (by decide +kernel) | exact Or.inr (by simp [bodyOf, Try.f4, bl.len, q2, q3, q]) | exact Or.inr (fun hlt => by simp [kill_none, Hp.alloc_g, Nat.ne_of_lt hlt])))
          | with_reducible refine rok_and ?_ ?_
          | ((with_reducible refine eok_cons ?_ ?_); (first | exact Or.inl (by decide +kernel) | exact Or.inr (by simp [bodyOf, Try.f4, bl.len, q2, q3, q]) | exact Or.inr (fun hlt => by simp [kill_none, Hp.alloc_g, Nat.ne_of_lt hlt])))
          | with_reducible refine eok_and ?_ ?_
          | simp -implicitDefEqProofs [bodyOf, Try.f4, bl.len, q2, q3, q])
      ·
        repeat (first
          | with_reducible refine call_step (large17 (a.grow (by simp)) (bl.grow (by simp))) ?_
          | with_reducible refine call_step (s22 _ _) ?_
          | with_reducible refine call_step (s23 _ _) ?_
          | with_reducible refine call_step (works18 _) ?_
          | with_reducible refine draw_enter ?_
          | with_reducible refine q_call (large17 (a.grow (by simp)) (bl.grow (by simp))) ROk.refl ?_
          | with_reducible refine q_call (s22 _ _) ROk.refl ?_
          | with_reducible refine q_call (s23 _ _) ROk.refl ?_
          | with_reducible refine q_call (works18 _) ROk.refl ?_
          | with_reducible exact rok_nil
          | ((with_reducible refine rok_cons ?_ ?_); (first | exact Or.inl (by decide +kernel) | exact Or.inr (by simp [bodyOf, Try.f4, bl.len, q2, q]) | exact Or.inr (fun hlt => by simp [kill_none, Hp.alloc_g, Nat.ne_of_lt hlt])))
          | with_reducible refine rok_and ?_ ?_
          | ((with_reducible refine eok_cons ?_ ?_); (first | exact Or.inl (by decide +kernel) | exact Or.inr (by simp [bodyOf, Try.f4, bl.len, q2, q]) | exact Or.inr (fun hlt => by simp [kill_none, Hp.alloc_g, Nat.ne_of_lt hlt])))
          | with_reducible refine eok_and ?_ ?_
          | simp -implicitDefEqProofs [bodyOf, Try.f4, bl.len, q2, q])
theorem staffOf_len {s : House} {l : List Bkg} : (staffOf s l).length ≤ 1000000 := by
  unfold staffOf
  split
  · rename_i e
    have := (bkOk_iff.1 e).l20
    split
    · cases ht : staffL s l with
      | none => simp
      | some t => have := (staffL_some ht).1.len; simp; omega
    · simp
  · simp
theorem ok8 : codeOk Try.f8.ntmps (bodyOf Try.f8) = true := by kernel_rfl
theorem staffs8 {h : Hp} {cv mv lv pv : Value} {s : House} {l : List Bkg} {ms : List Int} (a : HouseAt h cv mv s) (bl : BksAt h lv l) (p : SlOk h pv 1 ms.length (ms.map I)) : CallX Try.prog 8 #[.agg #[cv, mv, I s.cake], lv, pv] h (.bool true) h := by
  refine run_flat Tok hm Try.func8 (by kernel_rfl) (by kernel_rfl) ok8 (Nat.le_of_ble_eq_true rfl) ?_
  cases q : largeB s l with
  | true =>
    repeat (first
      | with_reducible refine call_step (large17 (a.grow (by simp)) (bl.grow (by simp))) ?_
      | with_reducible refine call_step (works18 _) ?_
      | with_reducible refine draw_enter ?_
      | with_reducible refine q_call (large17 (a.grow (by simp)) (bl.grow (by simp))) ROk.refl ?_
      | with_reducible refine q_call (works18 _) ROk.refl ?_
      | with_reducible exact rok_nil
      | ((with_reducible refine rok_cons ?_ ?_); (first | exact Or.inl (by decide +kernel) | exact Or.inr (by simp [bodyOf, Try.f8, q]) | exact Or.inr (fun hlt => by simp [kill_none, Hp.alloc_g, Nat.ne_of_lt hlt])))
      | with_reducible refine rok_and ?_ ?_
      | ((with_reducible refine eok_cons ?_ ?_); (first | exact Or.inl (by decide +kernel) | exact Or.inr (by simp [bodyOf, Try.f8, q]) | exact Or.inr (fun hlt => by simp [kill_none, Hp.alloc_g, Nat.ne_of_lt hlt])))
      | with_reducible refine eok_and ?_ ?_
      | simp -implicitDefEqProofs [bodyOf, Try.f8, q])
  | false =>
    repeat (first
      | with_reducible refine call_step (large17 (a.grow (by simp)) (bl.grow (by simp))) ?_
      | ((with_reducible refine call_step' (staff30 (a.grow (by simp)) (bl.grow (by simp)) (fun e => by have := large_false q e; omega)) ?_); rintro v1 h1 ⟨sl1, rfl, g1, s1⟩)
      | with_reducible refine draw_enter ?_
      | with_reducible refine q_call (large17 (a.grow (by simp)) (bl.grow (by simp))) ROk.refl ?_
      | with_reducible exact rok_nil
      | ((with_reducible refine rok_cons ?_ ?_); (first | exact Or.inl (by decide +kernel) | exact Or.inr (by simp [bodyOf, Try.f8, q]) | exact Or.inr (fun hlt => by simp [kill_none, Hp.alloc_g, Nat.ne_of_lt hlt])))
      | with_reducible refine rok_and ?_ ?_
      | ((with_reducible refine eok_cons ?_ ?_); (first | exact Or.inl (by decide +kernel) | exact Or.inr (by simp [bodyOf, Try.f8, q]) | exact Or.inr (fun hlt => by simp [kill_none, Hp.alloc_g, Nat.ne_of_lt hlt])))
      | with_reducible refine eok_and ?_ ?_
      | simp -implicitDefEqProofs [bodyOf, Try.f8, q])
    have hg : Grow h h1 := Grow.trans (by simp) g1
    have hb : h1.g h.n = .row true 3 [cv, mv, I s.cake] := by rw [g1.2 _ (by simp)]; simp
    have hn0 : h.n < h1.n := by have := g1.1; simp at this; omega
    repeat (first
      | ((with_reducible refine call_step' (staff31 (a.grow hg) (bl.grow hg)) ?_); rintro v2 h2 ⟨sl2, rfl, g2, s2⟩)
      | with_reducible refine draw_enter ?_
      | with_reducible exact rok_nil
      | ((with_reducible refine rok_cons ?_ ?_); (first | exact Or.inl (by decide +kernel) | exact Or.inr (by simp [hb, hn0]) | exact Or.inr (fun hlt => by simp [kill_none, Hp.alloc_g, Nat.ne_of_lt hlt])))
      | with_reducible refine rok_and ?_ ?_
      | ((with_reducible refine eok_cons ?_ ?_); (first | exact Or.inl (by decide +kernel) | exact Or.inr (by simp [hb, hn0]) | exact Or.inr (fun hlt => by simp [kill_none, Hp.alloc_g, Nat.ne_of_lt hlt])))
      | with_reducible refine eok_and ?_ ?_
      | simp -implicitDefEqProofs [hb, hn0])
    have hg2 : Grow h h2 := hg.trans g2
    have hb2 : h2.g h.n = .row true 3 [cv, mv, I s.cake] := (g2.2 _ hn0).trans hb
    have hn2 : h.n < h2.n := by have := g2.1; omega
    have c1 := checkStaff33 (a.grow hg2) (bl.grow hg2) (p.grow hg2)
    have c2 := checkStaff34 (a.grow hg2) (bl.grow hg2) (p.grow hg2)
    repeat (first
      | with_reducible refine call_step (sameInts32 (s1.sl.grow g2) s2 staffOf_len) ?_
      | with_reducible refine call_step (c1) ?_
      | with_reducible refine call_step (c2) ?_
      | with_reducible refine call_step (works18 _) ?_
      | with_reducible refine draw_enter ?_
      | with_reducible refine q_call (sameInts32 (s1.sl.grow g2) s2 staffOf_len) ROk.refl ?_
      | with_reducible refine q_call (c1) ROk.refl ?_
      | with_reducible refine q_call (c2) ROk.refl ?_
      | with_reducible refine q_call (works18 _) ROk.refl ?_
      | with_reducible exact rok_nil
      | ((with_reducible refine rok_cons ?_ ?_); (first | exact Or.inl (by decide +kernel) | exact Or.inr (by simp [hg2, hb2, hn2]) | exact Or.inr (fun hlt => by simp [kill_none, Hp.alloc_g, Nat.ne_of_lt hlt])))
      | with_reducible refine rok_and ?_ ?_
      | ((with_reducible refine eok_cons ?_ ?_); (first | exact Or.inl (by decide +kernel) | exact Or.inr (by simp [hg2, hb2, hn2]) | exact Or.inr (fun hlt => by simp [kill_none, Hp.alloc_g, Nat.ne_of_lt hlt])))
      | with_reducible refine eok_and ?_ ?_
      | simp -implicitDefEqProofs [hg2, hb2, hn2])
end Go.Proofs

set_option linter.unusedSimpArgs false
set_option linter.unusedVariables false
open Go Go.Fw
namespace Go.Proofs
attribute [local irreducible] Run RunOps RunDraw pop condK guardK guardKD resK drawK RunD dK Fw.gK
set_option maxRecDepth 4000
theorem ld_pair {h : Hp} {v : Value} {ps : List (Int × Int)} {n : Nat} (a : SlOk h v 2 n (ps.flatMap pairC)) (hn : n = ps.length) {i : Nat} (hi : i < ps.length) : ldK (some (true, 2)) (slId v) (i * 2) (h.g (slId v)) = .read (slId v) (.agg (pairC ps[i]).toArray) :=
  ld_rec (enc := pairC) (sz := 2) (fun _ => rfl) a hi hn
theorem T63 : ∃ d, T 63 = some d ∧ d.eqOk = true ∧ d.zero = [I 0, I 0] := by
  have h1 : (T 63).map (fun d => d.eqOk) = some true := by kernel_rfl
  have h2 := T_pair
  cases h : T 63 with
  | none => rw [h] at h1; simp at h1
  | some d =>
    rw [h] at h1 h2
    simp at h1 h2
    exact ⟨d, rfl, h1, h2⟩
theorem eq_pair {a b : Int} {neg : Bool} : eqAgg T 63 neg [I a, I b] [I a, I b] = .pure (.bool (if neg then false else true)) := by
  obtain ⟨d, h1, h2, h3⟩ := T63
  have hs : all2 shaped [I 0, I 0] [I a, I b] = true := rfl
  have hv : all2 veq [I a, I b] [I a, I b] = true := by simp [all2, veq]
  simp only [eqAgg, h1, h2, h3, hs, hv, Bool.and_self, if_true, Bool.not_true]
theorem takenOf_len {s : House} {l : List Bkg} : (takenOf s l).length ≤ 400 := by
  unfold takenOf
  split
  · rename_i e; exact takenL_len (bkOk_iff.1 e).l20
  · simp
theorem ok12 : codeOk Try.f12.ntmps (bodyOf Try.f12) = true := by kernel_rfl
theorem checks12 {h : Hp} {cv mv lv : Value} {s : House} {l : List Bkg} (a : HouseAt h cv mv s) (bl : BksAt h lv l) : CallX Try.prog 12 #[.agg #[cv, mv, I s.cake], lv] h (.bool true) h := by
  refine run_flat Tok hm Try.func12 (by kernel_rfl) (by kernel_rfl) ok12 (Nat.le_of_ble_eq_true rfl) ?_
  have hva := a.va
  repeat (first
    | with_reducible refine call_step (check39 (a.grow (by simp)) (bl.grow (by simp))) ?_
    | with_reducible refine call_step (check26 (a.grow (by simp)) (bl.grow (by simp))) ?_
    | ((with_reducible refine call_step' (taken28 (a.grow (by simp)) (bl.grow (by simp))) ?_); rintro v1 h1 ⟨sl1, rfl, g1, s1⟩)
    | with_reducible refine draw_enter ?_
    | with_reducible refine q_call (check39 (a.grow (by simp)) (bl.grow (by simp))) ROk.refl ?_
    | with_reducible refine q_call (check26 (a.grow (by simp)) (bl.grow (by simp))) ROk.refl ?_
    | with_reducible exact rok_nil
    | ((with_reducible refine rok_cons ?_ ?_); (first | exact Or.inl (by decide +kernel) | exact Or.inr (by simp [bodyOf, Try.f12, hva, hva.up]) | exact Or.inr (fun hlt => by simp [kill_none, Hp.alloc_g, Nat.ne_of_lt hlt])))
    | with_reducible refine rok_and ?_ ?_
    | ((with_reducible refine eok_cons ?_ ?_); (first | exact Or.inl (by decide +kernel) | exact Or.inr (by simp [bodyOf, Try.f12, hva, hva.up]) | exact Or.inr (fun hlt => by simp [kill_none, Hp.alloc_g, Nat.ne_of_lt hlt])))
    | with_reducible refine eok_and ?_ ?_
    | simp -implicitDefEqProofs [bodyOf, Try.f12, hva, hva.up])
  have hg : Grow h h1 := Grow.trans (by simp) g1
  have hb : h1.g h.n = .row true 3 [cv, mv, I s.cake] := by rw [g1.2 _ (by simp)]; simp
  have hn0 : h.n < h1.n := by have := g1.1; simp at this; omega
  repeat (first
    | ((with_reducible refine call_step' (taken40 (a.grow hg) (bl.grow hg)) ?_); rintro v2 h2 ⟨sl2, rfl, g2, s2⟩)
    | with_reducible refine draw_enter ?_
    | with_reducible exact rok_nil
    | ((with_reducible refine rok_cons ?_ ?_); (first | exact Or.inl (by decide +kernel) | exact Or.inr (by simp [hb, hn0]) | exact Or.inr (fun hlt => by simp [kill_none, Hp.alloc_g, Nat.ne_of_lt hlt])))
    | with_reducible refine rok_and ?_ ?_
    | ((with_reducible refine eok_cons ?_ ?_); (first | exact Or.inl (by decide +kernel) | exact Or.inr (by simp [hb, hn0]) | exact Or.inr (fun hlt => by simp [kill_none, Hp.alloc_g, Nat.ne_of_lt hlt])))
    | with_reducible refine eok_and ?_ ?_
    | simp -implicitDefEqProofs [hb, hn0])
  have hg2 : Grow h h2 := hg.trans g2
  have hb2 : h2.g h.n = .row true 3 [cv, mv, I s.cake] := (g2.2 _ hn0).trans hb
  have hn2 : h.n < h2.n := by have := g2.1; omega
  have k1 := s1.sl.grow g2
  have k2 := s2.sl
  have hT := takenOf_len (s := s) (l := l)
  obtain ⟨ps, hps⟩ : ∃ ps, ps = takenOf s l := ⟨_, rfl⟩
  rw [← hps] at k1 k2 hT
  repeat (first
    | with_reducible refine draw_enter ?_
    | with_reducible exact rok_nil
    | ((with_reducible refine rok_cons ?_ ?_); (first | exact Or.inl (by decide +kernel) | exact Or.inr (by simp [k1.len, k2.len]) | exact Or.inr (fun hlt => by simp [kill_none, Hp.alloc_g, Nat.ne_of_lt hlt])))
    | with_reducible refine rok_and ?_ ?_
    | ((with_reducible refine eok_cons ?_ ?_); (first | exact Or.inl (by decide +kernel) | exact Or.inr (by simp [k1.len, k2.len]) | exact Or.inr (fun hlt => by simp [kill_none, Hp.alloc_g, Nat.ne_of_lt hlt])))
    | with_reducible refine eok_and ?_ ?_
    | simp -implicitDefEqProofs [k1.len, k2.len])
  refine run_for Tok hm (by kernel_rfl) [4, 9, 43, 44, 45, 46, 47, 48, 49, 50, 51, 52, 53, 54, 55, 56, 57] (by kernel_rfl) h2.n ps.length (fun i f h3 => f 9 = I i) ?_ ?_ ?_
  · simp
  · rintro i f h3 hi h9 fr hu
    have m1 := k1.grow hu
    have m2 := k2.grow hu
    have r1 := m1.ref (by omega)
    have r2 := m2.ref (by omega)
    have lt1 := m1.lt (by omega)
    have lt2 := m2.lt (by omega)
    have l1 := ld_pair m1 rfl hi
    have l2 := ld_pair m2 rfl hi
    have hw := wrap_succ hi (by omega)
    repeat (first
      | with_reducible refine draw_enter ?_
      | with_reducible exact rok_nil
      | ((with_reducible refine rok_cons ?_ ?_); (first | exact Or.inl (by decide +kernel) | exact Or.inr (by simp [h9, fr, k1.len, r1, r2, lt1, lt2, l1, l2, hi, eq_pair, hw]) | exact Or.inr (fun hlt => by simp [kill_none, Hp.alloc_g, Nat.ne_of_lt hlt])))
      | with_reducible refine rok_and ?_ ?_
      | ((with_reducible refine eok_cons ?_ ?_); (first | exact Or.inl (by decide +kernel) | exact Or.inr (by simp [h9, fr, k1.len, r1, r2, lt1, lt2, l1, l2, hi, eq_pair, hw]) | exact Or.inr (fun hlt => by simp [kill_none, Hp.alloc_g, Nat.ne_of_lt hlt])))
      | with_reducible refine eok_and ?_ ?_
      | simp -implicitDefEqProofs [h9, fr, k1.len, r1, r2, lt1, lt2, l1, l2, hi, eq_pair, hw])
  · rintro f h3 h9 fr hu
    have hg3 : Grow h h3 := hg2.trans hu
    have hb3 : h3.g h.n = .row true 3 [cv, mv, I s.cake] := by rw [hu.2 _ hn2]; exact hb2
    have hn3 : h.n < h3.n := by have := hu.1; omega
    repeat (first
      | with_reducible refine call_step (fits27 (a.grow hg3) (bl.grow hg3)) ?_
      | with_reducible refine call_step (fits41 (a.grow hg3) (bl.grow hg3)) ?_
      | with_reducible refine call_step (needs42 (a.grow hg3) (bl.grow hg3)) ?_
      | with_reducible refine call_step (needs43 (a.grow hg3) (bl.grow hg3)) ?_
      | with_reducible refine call_step (works18 _) ?_
      | with_reducible refine draw_enter ?_
      | with_reducible refine q_call (fits27 (a.grow hg3) (bl.grow hg3)) ROk.refl ?_
      | with_reducible refine q_call (fits41 (a.grow hg3) (bl.grow hg3)) ROk.refl ?_
      | with_reducible refine q_call (needs42 (a.grow hg3) (bl.grow hg3)) ROk.refl ?_
      | with_reducible refine q_call (needs43 (a.grow hg3) (bl.grow hg3)) ROk.refl ?_
      | with_reducible refine q_call (works18 _) ROk.refl ?_
      | with_reducible exact rok_nil
      | ((with_reducible refine rok_cons ?_ ?_); (first | exact Or.inl (by decide +kernel) | exact Or.inr (by simp [h9, fr, k1.len, hb3, hn3, hg3]) | exact Or.inr (fun hlt => by simp [kill_none, Hp.alloc_g, Nat.ne_of_lt hlt])))
      | with_reducible refine rok_and ?_ ?_
      | ((with_reducible refine eok_cons ?_ ?_); (first | exact Or.inl (by decide +kernel) | exact Or.inr (by simp [h9, fr, k1.len, hb3, hn3, hg3]) | exact Or.inr (fun hlt => by simp [kill_none, Hp.alloc_g, Nat.ne_of_lt hlt])))
      | with_reducible refine eok_and ?_ ?_
      | simp -implicitDefEqProofs [h9, fr, k1.len, hb3, hn3, hg3])
end Go.Proofs
