/- Part of the proofs of the laws (see the last text of a claim): contracts of functions, and what they are shown with. -/
import Derived.Test.YtmbjfekagoepgaaDkF
set_option linter.unusedSimpArgs false
set_option linter.unusedVariables false
open Go Go.Fw
namespace Go.Proofs
attribute [local irreducible] Run RunOps RunDraw pop condK guardK guardKD resK drawK RunD dK Fw.gK
set_option maxRecDepth 4000
theorem ok46 : codeOk Try.f46.ntmps (bodyOf Try.f46) = true := by kernel_rfl
theorem choose46 {h : Hp} {cv mv lv pv : Value} {s : House} {l : List Bkg} {ws : List Int} (a : HouseAt h cv mv s) (bl : BksAt h lv l) (hw : SlOk h pv 1 ws.length (ws.map I)) (hl : l.length ≤ 6 ∨ 12 < l.length) :
    ∃ v h', CallX Try.prog 46 #[.agg #[cv, mv, I s.cake], lv, pv] h v h' ∧ GivesPick h (chE s l ws) (chP s l ws) v h' := by
  refine run_any Tok hm Try.func46 (by kernel_rfl) (by kernel_rfl) ok46 (Nat.le_of_ble_eq_true rfl) ?_
  by_cases e : errCheck s l = 0
  case neg =>
    have he : chE s l ws = errCheck s l := by simp [chE, e]
    repeat (first
      | with_reducible refine call_step (check39 (a.grow (by simp)) (bl.grow (by simp))) ?_
      | with_reducible refine draw_enter ?_
      | with_reducible refine q_call (check39 (a.grow (by simp)) (bl.grow (by simp))) ROk.refl ?_
      | with_reducible exact rok_nil
      | ((with_reducible refine rok_cons ?_ ?_); (first | exact Or.inl (by decide +kernel) | exact Or.inr (by simp [bodyOf, Try.f46, e, he]) | exact Or.inr (fun hlt => by simp [kill_none, Hp.alloc_g, Nat.ne_of_lt hlt])))
      | with_reducible refine rok_and ?_ ?_
      | ((with_reducible refine eok_cons ?_ ?_); (first | exact Or.inl (by decide +kernel) | exact Or.inr (by simp [bodyOf, Try.f46, e, he]) | exact Or.inr (fun hlt => by simp [kill_none, Hp.alloc_g, Nat.ne_of_lt hlt])))
      | with_reducible refine eok_and ?_ ?_
      | simp -implicitDefEqProofs [bodyOf, Try.f46, e, he])
    exact GivesPick.nil (by simp) (by simp [chP, he, e])
  have w := bkOk_iff.1 e
  by_cases q12 : 12 < l.length
  · have he : chE s l ws = 2 := by simp [chE, e, q12]
    repeat (first
      | with_reducible refine call_step (check39 (a.grow (by simp)) (bl.grow (by simp))) ?_
      | with_reducible refine draw_enter ?_
      | with_reducible refine q_call (check39 (a.grow (by simp)) (bl.grow (by simp))) ROk.refl ?_
      | with_reducible exact rok_nil
      | ((with_reducible refine rok_cons ?_ ?_); (first | exact Or.inl (by decide +kernel) | exact Or.inr (by simp [bodyOf, Try.f46, e, he, bl.len, q12]) | exact Or.inr (fun hlt => by simp [kill_none, Hp.alloc_g, Nat.ne_of_lt hlt])))
      | with_reducible refine rok_and ?_ ?_
      | ((with_reducible refine eok_cons ?_ ?_); (first | exact Or.inl (by decide +kernel) | exact Or.inr (by simp [bodyOf, Try.f46, e, he, bl.len, q12]) | exact Or.inr (fun hlt => by simp [kill_none, Hp.alloc_g, Nat.ne_of_lt hlt])))
      | with_reducible refine eok_and ?_ ?_
      | simp -implicitDefEqProofs [bodyOf, Try.f46, e, he, bl.len, q12])
    exact GivesPick.nil (by simp) (by simp [chP, he])
  by_cases qa : ws.length = l.length
  case neg =>
    have he : chE s l ws = 1 := by simp [chE, e, q12, chArgs, qa]
    repeat (first
      | with_reducible refine call_step (check39 (a.grow (by simp)) (bl.grow (by simp))) ?_
      | with_reducible refine draw_enter ?_
      | with_reducible refine q_call (check39 (a.grow (by simp)) (bl.grow (by simp))) ROk.refl ?_
      | with_reducible exact rok_nil
      | ((with_reducible refine rok_cons ?_ ?_); (first | exact Or.inl (by decide +kernel) | exact Or.inr (by simp [bodyOf, Try.f46, e, he, bl.len, hw.len, q12, qa]) | exact Or.inr (fun hlt => by simp [kill_none, Hp.alloc_g, Nat.ne_of_lt hlt])))
      | with_reducible refine rok_and ?_ ?_
      | ((with_reducible refine eok_cons ?_ ?_); (first | exact Or.inl (by decide +kernel) | exact Or.inr (by simp [bodyOf, Try.f46, e, he, bl.len, hw.len, q12, qa]) | exact Or.inr (fun hlt => by simp [kill_none, Hp.alloc_g, Nat.ne_of_lt hlt])))
      | with_reducible refine eok_and ?_ ?_
      | simp -implicitDefEqProofs [bodyOf, Try.f46, e, he, bl.len, hw.len, q12, qa])
    exact GivesPick.nil (by simp) (by simp [chP, he])
  have l6 : l.length ≤ 6 := by omega
  have hwl := hw.len
  rw [qa] at hwl
  have hct := fun o => contains63 (h := h.alloc o) (v := pv) (g := 75) (fi := #[]) (ca := #[]) (xs := ws) (p := fun x => !within x 0 100000) (by omega) (hw.grow (by simp)) (fun h' _ x _ => by simpa using not75 x h')
  have hany : ws.any (fun x => !within x 0 100000) = !valued ws := by simp [valued]
  rw [hany] at hct
  cases hv : valued ws with
  | false =>
    have he : chE s l ws = 1 := by simp [chE, e, q12, chArgs, hv]
    rw [hv] at hct
    repeat (first
      | with_reducible refine call_step (check39 (a.grow (by simp)) (bl.grow (by simp))) ?_
      | with_reducible refine call_step (hct _) ?_
      | with_reducible refine draw_enter ?_
      | with_reducible refine q_call (check39 (a.grow (by simp)) (bl.grow (by simp))) ROk.refl ?_
      | with_reducible refine q_call (hct _) ROk.refl ?_
      | with_reducible exact rok_nil
      | ((with_reducible refine rok_cons ?_ ?_); (first | exact Or.inl (by decide +kernel) | exact Or.inr (by simp [bodyOf, Try.f46, e, he, bl.len, hwl, q12]) | exact Or.inr (fun hlt => by simp [kill_none, Hp.alloc_g, Nat.ne_of_lt hlt])))
      | with_reducible refine rok_and ?_ ?_
      | ((with_reducible refine eok_cons ?_ ?_); (first | exact Or.inl (by decide +kernel) | exact Or.inr (by simp [bodyOf, Try.f46, e, he, bl.len, hwl, q12]) | exact Or.inr (fun hlt => by simp [kill_none, Hp.alloc_g, Nat.ne_of_lt hlt])))
      | with_reducible refine eok_and ?_ ?_
      | simp -implicitDefEqProofs [bodyOf, Try.f46, e, he, bl.len, hwl, q12])
    exact GivesPick.nil (by simp) (by simp [chP, he])
  | true =>
  have he : chE s l ws = 0 := by simp [chE, e, q12, chArgs, qa, hv]
  have hP : chP s l ws = bestTo s l ws (2 ^ l.length) := by simp [chP, he]
  rw [hv] at hct
  obtain ⟨M, hM⟩ : ∃ M, M = 2 ^ l.length := ⟨_, rfl⟩
  have hsh : shl64 1 l.length = (M : Int) := by rw [hM]; exact shl_nat (by omega)
  have hn0 : ¬ (l.length : Int) < 0 := by omega
  repeat (first
    | with_reducible refine call_step (check39 (a.grow (by simp)) (bl.grow (by simp))) ?_
    | with_reducible refine call_step (hct _) ?_
    | with_reducible refine draw_enter ?_
    | with_reducible refine q_call (check39 (a.grow (by simp)) (bl.grow (by simp))) ROk.refl ?_
    | with_reducible refine q_call (hct _) ROk.refl ?_
    | with_reducible exact rok_nil
    | ((with_reducible refine rok_cons ?_ ?_); (first | exact Or.inl (by decide +kernel) | exact Or.inr (by simp [bodyOf, Try.f46, e, he, bl.len, hwl, q12, hsh, hn0]) | exact Or.inr (fun hlt => by simp [kill_none, Hp.alloc_g, Nat.ne_of_lt hlt])))
    | with_reducible refine rok_and ?_ ?_
    | ((with_reducible refine eok_cons ?_ ?_); (first | exact Or.inl (by decide +kernel) | exact Or.inr (by simp [bodyOf, Try.f46, e, he, bl.len, hwl, q12, hsh, hn0]) | exact Or.inr (fun hlt => by simp [kill_none, Hp.alloc_g, Nat.ne_of_lt hlt])))
    | with_reducible refine eok_and ?_ ?_
    | simp -implicitDefEqProofs [bodyOf, Try.f46, e, he, bl.len, hwl, q12, hsh, hn0])
  refine run_for Tok hm (by kernel_rfl) [6, 7, 10, 11, 12, 14, 15, 16, 38, 39, 40, 41, 42, 43, 44, 45, 46, 47, 48, 49, 50, 51, 52, 53, 54, 55, 56, 57, 58, 59, 60, 61, 62, 63, 64, 65, 66, 67, 68, 69, 70, 71, 72, 73, 74, 75, 76, 77, 78, 79, 80, 81, 82, 83, 84, 85, 86, 87, 88, 89, 90, 91, 92, 93, 94, 95, 96, 97, 98, 99, 100, 101, 102, 103, 104, 105, 106, 107] (by kernel_rfl) (h.n + 1) M (fun B f h1 => f 38 = I B ∧ f 7 = I (bestTo s l ws B).2 ∧ Acc (h.n + 1) h1 1 (f 6) (bestTo s l ws B).1.length ((bestTo s l ws B).1.map I)) ?_ ?_ ?_
  · exact ⟨by simp, by simp [bestTo], by simpa [bestTo] using Acc.nil⟩
  · rintro B f h1 hB ⟨h38, f7, acc⟩ fr hu
    have hg : Grow h h1 := hu.grow (by simp) (by simp)
    have hn : h.n + 1 ≤ h1.n := by have := hu.1; simpa using this
    have hb1 : h1.g h.n = .row true 3 [cv, mv, I s.cake] := by rw [hu.2 _ (by omega)]; simp
    refine choose46b (a.grow hg) (bl.grow hg) (hw.grow hg) w l6 qa hv hM hB hb1 (by omega) hn (by simp [fr]) (by simp [fr]) (by simp [fr]) (by simp [fr]) h38 f7 acc (by kernel_rfl) fun f' h' k38 k7 k6 u => ?_
    simp only [fk_normal]
    exact ⟨u.mono hn, k38, k7, k6⟩
  · rintro f h1 ⟨h38, f7, acc⟩ fr hu
    have hg : Grow h h1 := hu.grow (by simp) (by simp)
    repeat (first
      | with_reducible refine draw_enter ?_
      | with_reducible exact rok_nil
      | ((with_reducible refine rok_cons ?_ ?_); (first | exact Or.inl (by decide +kernel) | exact Or.inr (by simp [h38, fr, f7, he]) | exact Or.inr (fun hlt => by simp [kill_none, Hp.alloc_g, Nat.ne_of_lt hlt])))
      | with_reducible refine rok_and ?_ ?_
      | ((with_reducible refine eok_cons ?_ ?_); (first | exact Or.inl (by decide +kernel) | exact Or.inr (by simp [h38, fr, f7, he]) | exact Or.inr (fun hlt => by simp [kill_none, Hp.alloc_g, Nat.ne_of_lt hlt])))
      | with_reducible refine eok_and ?_ ?_
      | simp -implicitDefEqProofs [h38, fr, f7, he])
    rw [hP, ← hM]
    exact ⟨_, rfl, hg, acc.mono (by omega)⟩
end Go.Proofs
