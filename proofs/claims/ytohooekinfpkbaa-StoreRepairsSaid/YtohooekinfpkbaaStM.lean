/- Part of the proofs of the laws (see the last text of a claim): contracts of functions, and what they are shown with. -/
import Derived.Test.YtohooekinfpkbaaSc
import Derived.Test.YtohooekinfpkbaaStJ
set_option linter.unusedSimpArgs false
set_option linter.unusedVariables false
open Go Go.Fw
namespace Go.Proofs
attribute [local irreducible] Run RunOps RunDraw pop condK guardK guardKD resK drawK RunD dK gK
set_option maxRecDepth 4000
theorem ok39 : codeOk Try.f39.ntmps (bodyOf Try.f39) = true := by kernel_rfl
theorem worn39 {h : Hp} {kv lv pv : Value} {s : Store} {plan : List Int} (a : StoreAt h kv lv s) (p : SlOk h pv 1 plan.length (plan.map I)) :
    ∃ v h', CallX Try.prog 39 #[.agg #[kv, lv], pv] h v h' ∧ GivesPairs h (errPlan s plan) (wornOf s plan) v h' := by
  refine run_any Tok hm Try.func39 (by kernel_rfl) (by kernel_rfl) ok39 (Nat.le_of_ble_eq_true rfl) ?_
  by_cases he : errPlan s plan = 0
  case neg =>
    repeat (first
      | with_reducible refine call_step (checkPlan66 (a.grow (by simp)) (p.grow (by simp))) ?_
      | with_reducible refine draw_enter ?_
      | with_reducible refine q_call (checkPlan66 (a.grow (by simp)) (p.grow (by simp))) ROk.refl ?_
      | with_reducible exact rok_nil
      | ((with_reducible refine rok_cons ?_ ?_); (first | exact Or.inl (by decide +kernel) | exact Or.inr (by simp [bodyOf, Try.f39, he]) | exact Or.inr (fun hlt => by simp [kill_none, Hp.alloc_g, Nat.ne_of_lt hlt])))
      | with_reducible refine rok_and ?_ ?_
      | ((with_reducible refine eok_cons ?_ ?_); (first | exact Or.inl (by decide +kernel) | exact Or.inr (by simp [bodyOf, Try.f39, he]) | exact Or.inr (fun hlt => by simp [kill_none, Hp.alloc_g, Nat.ne_of_lt hlt])))
      | with_reducible refine eok_and ?_ ?_
      | simp -implicitDefEqProofs [bodyOf, Try.f39, he])
    exact GivesPairs.nil (by simp) (by simp [wornOf, he])
  obtain ⟨o, hp⟩ := errPlan_ok he
  have hl := okPlan_length hp
  repeat (first
    | with_reducible refine call_step (checkPlan66 (a.grow (by simp)) (p.grow (by simp))) ?_
    | with_reducible refine draw_enter ?_
    | with_reducible refine q_call (checkPlan66 (a.grow (by simp)) (p.grow (by simp))) ROk.refl ?_
    | with_reducible exact rok_nil
    | ((with_reducible refine rok_cons ?_ ?_); (first | exact Or.inl (by decide +kernel) | exact Or.inr (by simp [bodyOf, Try.f39, he]) | exact Or.inr (fun hlt => by simp [kill_none, Hp.alloc_g, Nat.ne_of_lt hlt])))
    | with_reducible refine rok_and ?_ ?_
    | ((with_reducible refine eok_cons ?_ ?_); (first | exact Or.inl (by decide +kernel) | exact Or.inr (by simp [bodyOf, Try.f39, he]) | exact Or.inr (fun hlt => by simp [kill_none, Hp.alloc_g, Nat.ne_of_lt hlt])))
    | with_reducible refine eok_and ?_ ?_
    | simp -implicitDefEqProofs [bodyOf, Try.f39, he])
  have k8 := o.k8
  refine run_for Tok hm (by kernel_rfl) [7, 8, 9, 10, 17, 18, 19, 20, 21, 22, 23, 24, 25, 26, 27, 28, 29, 30, 31, 32, 33, 34, 35, 36, 37, 38, 39, 40, 41, 42, 43, 44, 45, 46, 47, 48, 49, 50] (by kernel_rfl) (h.n + 1) s.kinds.length (fun k f h1 => f 8 = I k ∧ Acc (h.n + 1) h1 2 (f 7) (wornL s plan k).length ((wornL s plan k).flatMap pairC)) ?_ ?_ ?_
  · exact ⟨by simp, by simpa [wornL] using Acc.nil⟩
  · rintro k f h1 hk ⟨h8, hacc⟩ fr hu
    have hg : Grow h h1 := hu.grow (by simp) (by simp)
    have hb : h1.g h.n = .row true 2 [kv, lv] := by rw [hu.2 _ (by simp)]; simp
    have hn : h.n + 1 ≤ h1.n := by have := hu.1; simpa using this
    have hn0 : h.n < h1.n := by omega
    have hit := o.items k hk
    obtain ⟨N, hN⟩ : ∃ N : Nat, (gK s k).items = N := ⟨(gK s k).items.toNat, by omega⟩
    have a1 := a.grow hg
    have hwk := wrap_succ hk (by omega)
    have hL : (wearL s plan k s.loans.length).length = N := by simp [wearL, hN]
    repeat (first
      | ((with_reducible refine call_step' (wear75 (a1.grow (by simp)) (p.grow (by simp [hg])) o hp (kind := (k : Int)) (by omega) (by omega)) ?_); rintro v1 h2 ⟨g2, s1⟩)
      | with_reducible refine draw_enter ?_
      | with_reducible exact rok_nil
      | ((with_reducible refine rok_cons ?_ ?_); (first | exact Or.inl (by decide +kernel) | exact Or.inr (by simp [h8, fr, hk, hb, hn0, a.kinds.len]) | exact Or.inr (fun hlt => by simp [kill_none, Hp.alloc_g, Nat.ne_of_lt hlt])))
      | with_reducible refine rok_and ?_ ?_
      | ((with_reducible refine eok_cons ?_ ?_); (first | exact Or.inl (by decide +kernel) | exact Or.inr (by simp [h8, fr, hk, hb, hn0, a.kinds.len]) | exact Or.inr (fun hlt => by simp [kill_none, Hp.alloc_g, Nat.ne_of_lt hlt])))
      | with_reducible refine eok_and ?_ ?_
      | simp -implicitDefEqProofs [h8, fr, hk, hb, hn0, a.kinds.len])
    rw [hL] at s1
    have hn2 := g2.1
    repeat (first
      | with_reducible refine draw_enter ?_
      | with_reducible exact rok_nil
      | ((with_reducible refine rok_cons ?_ ?_); (first | exact Or.inl (by decide +kernel) | exact Or.inr (by simp []) | exact Or.inr (fun hlt => by simp [kill_none, Hp.alloc_g, Nat.ne_of_lt hlt])))
      | with_reducible refine rok_and ?_ ?_
      | ((with_reducible refine eok_cons ?_ ?_); (first | exact Or.inl (by decide +kernel) | exact Or.inr (by simp []) | exact Or.inr (fun hlt => by simp [kill_none, Hp.alloc_g, Nat.ne_of_lt hlt])))
      | with_reducible refine eok_and ?_ ?_
      | simp -implicitDefEqProofs [])
    obtain ⟨K, hKd⟩ : ∃ K : Nat → Prop, ∀ i, K i ↔ (i < h.n + 1 ∨ (h1.n ≤ i ∧ i < h2.n)) := ⟨_, fun _ => Iff.rfl⟩
    obtain ⟨q, hqd⟩ : ∃ q : Nat → Prop, ∀ i, q i ↔ (h.n + 1 ≤ i ∧ ¬ (h1.n ≤ i ∧ i < h2.n)) := ⟨_, fun _ => Iff.rfl⟩
    refine run_forP Tok hm (by kernel_rfl) [7, 10, 28, 29, 30, 31, 32, 33, 34, 35, 36, 37, 38, 39, 40, 41, 42, 43, 44, 45, 46, 47, 48, 49, 50] (by kernel_rfl) K N (fun m f3 h3 => f3 10 = I m ∧ AccP q h3 2 (f3 7) (wornP s plan k m).length ((wornP s plan k m).flatMap pairC)) ?_ ?_ ?_
    · exact ⟨by simp, by simpa [wornP_zero, fr] using (hacc.toP (p := q) (fun i hi hlt => (hqd i).2 ⟨hi, by omega⟩)).grow g2 (fun i hi => hi)⟩
    · rintro m f3 h3 hm ⟨h10, hacc3⟩ fr3 hu3
      have hb3 : h3.g h.n = .row true 2 [kv, lv] := by rw [hu3.2 _ ((hKd _).2 (by omega)), g2.2 _ hn0]; exact hb
      have hid := s1.id (by omega)
      have s3 := s1.sl.upto hu3 ((hKd _).2 (by omega))
      have hn3 := hu3.1
      have hn30 : h.n < h3.n := by omega
      have hg3 : Grow h h3 := hu3.grow (hg.trans g2) fun i hi => (hKd _).2 (by omega)
      have a3 := a.grow hg3
      have r4 := a3.kinds.ref (by omega)
      have l4 := ld_life a3 hk
      have r3 := s3.ref (by omega)
      have l3 := ld_int s3 (i := m) (by omega)
      rw [wearL_get hN hm] at l3
      have hw := wrap_succ hm (by omega)
      have hlen := wornP_len o (plan := plan) hk (m := m) (by omega)
      by_cases hlife : (gK s k).life ≤ wearAt s plan k m s.loans.length
      · have hs := wornP_yes hlife
        repeat (first
          | with_reducible refine draw_enter ?_
          | with_reducible exact rok_nil
          | ((with_reducible refine rok_cons ?_ ?_); (first | exact Or.inl (by decide +kernel) | exact Or.inr (by simp [h10, fr3, fr, h8, r3, l3, r4, l4, hk, hm, hw, hb3, hn30, hlife, hs, hn3, hacc3.app, hlen, s1.len, a3.kinds.vr]) | exact Or.inr (fun hlt => by simp [kill_none, Hp.alloc_g, Nat.ne_of_lt hlt])))
          | with_reducible refine rok_and ?_ ?_
          | ((with_reducible refine eok_cons ?_ ?_); (first | exact Or.inl (by decide +kernel) | exact Or.inr (by simp [h10, fr3, fr, h8, r3, l3, r4, l4, hk, hm, hw, hb3, hn30, hlife, hs, hn3, hacc3.app, hlen, s1.len, a3.kinds.vr]) | exact Or.inr (fun hlt => by simp [kill_none, Hp.alloc_g, Nat.ne_of_lt hlt])))
          | with_reducible refine eok_and ?_ ?_
          | simp -implicitDefEqProofs [h10, fr3, fr, h8, r3, l3, r4, l4, hk, hm, hw, hb3, hn30, hlife, hs, hn3, hacc3.app, hlen, s1.len, a3.kinds.vr])
        exact ⟨(hacc3.kill (UptoP.refl.alloc (fun i hi => by have := (hKd i).1 hi; omega)) (fun i hi h' => by have := (hKd i).1 h'; have := (hqd i).1 hi; omega)).alloc (fun i hi => by have := (hKd i).1 hi; simp; omega),
          AccP.own ((hqd _).2 (by omega)) (by simp) (by simp) (by rw [List.length_append, hacc3.size]; simp; omega)⟩
      · have hs := wornP_no hlife
        repeat (first
          | with_reducible refine draw_enter ?_
          | with_reducible exact rok_nil
          | ((with_reducible refine rok_cons ?_ ?_); (first | exact Or.inl (by decide +kernel) | exact Or.inr (by simp [h10, fr3, fr, h8, r3, l3, r4, l4, hk, hm, hw, hb3, hn30, hlife, hs, hn3, s1.len, a3.kinds.vr]) | exact Or.inr (fun hlt => by simp [kill_none, Hp.alloc_g, Nat.ne_of_lt hlt])))
          | with_reducible refine rok_and ?_ ?_
          | ((with_reducible refine eok_cons ?_ ?_); (first | exact Or.inl (by decide +kernel) | exact Or.inr (by simp [h10, fr3, fr, h8, r3, l3, r4, l4, hk, hm, hw, hb3, hn30, hlife, hs, hn3, s1.len, a3.kinds.vr]) | exact Or.inr (fun hlt => by simp [kill_none, Hp.alloc_g, Nat.ne_of_lt hlt])))
          | with_reducible refine eok_and ?_ ?_
          | simp -implicitDefEqProofs [h10, fr3, fr, h8, r3, l3, r4, l4, hk, hm, hw, hb3, hn30, hlife, hs, hn3, s1.len, a3.kinds.vr])
        exact ⟨UptoP.refl, hacc3⟩
    · rintro f3 h3 ⟨h10, hacc3⟩ fr3 hu3
      rw [wornP_last hN] at hacc3
      have hu4 : Upto (h.n + 1) h1 h3 := ⟨Nat.le_trans g2.1 hu3.1, fun i hi => (hu3.2 i ((hKd i).2 (Or.inl hi))).trans (g2.2 i (by omega))⟩
      repeat (first
        | with_reducible refine draw_enter ?_
        | with_reducible exact rok_nil
        | ((with_reducible refine rok_cons ?_ ?_); (first | exact Or.inl (by decide +kernel) | exact Or.inr (by simp [h10, fr3, fr, h8, hwk, hu4, s1.len]) | exact Or.inr (fun hlt => by simp [kill_none, Hp.alloc_g, Nat.ne_of_lt hlt])))
        | with_reducible refine rok_and ?_ ?_
        | ((with_reducible refine eok_cons ?_ ?_); (first | exact Or.inl (by decide +kernel) | exact Or.inr (by simp [h10, fr3, fr, h8, hwk, hu4, s1.len]) | exact Or.inr (fun hlt => by simp [kill_none, Hp.alloc_g, Nat.ne_of_lt hlt])))
        | with_reducible refine eok_and ?_ ?_
        | simp -implicitDefEqProofs [h10, fr3, fr, h8, hwk, hu4, s1.len])
      exact hacc3.toAcc fun i hi => ((hqd i).1 hi).1
  · rintro f h1 ⟨h8, hacc⟩ fr hu
    have hg : Grow h h1 := hu.grow (by simp) (by simp)
    have hb : h1.g h.n = .row true 2 [kv, lv] := by rw [hu.2 _ (by simp)]; simp
    repeat (first
      | with_reducible refine draw_enter ?_
      | with_reducible exact rok_nil
      | ((with_reducible refine rok_cons ?_ ?_); (first | exact Or.inl (by decide +kernel) | exact Or.inr (by simp [h8, fr, hb, a.kinds.len]) | exact Or.inr (fun hlt => by simp [kill_none, Hp.alloc_g, Nat.ne_of_lt hlt])))
      | with_reducible refine rok_and ?_ ?_
      | ((with_reducible refine eok_cons ?_ ?_); (first | exact Or.inl (by decide +kernel) | exact Or.inr (by simp [h8, fr, hb, a.kinds.len]) | exact Or.inr (fun hlt => by simp [kill_none, Hp.alloc_g, Nat.ne_of_lt hlt])))
      | with_reducible refine eok_and ?_ ?_
      | simp -implicitDefEqProofs [h8, fr, hb, a.kinds.len])
    refine ⟨f 7, rfl, hg, ?_⟩
    rw [show wornOf s plan = wornL s plan s.kinds.length by simp [wornOf, he]]
    exact hacc.mono (by omega)
theorem wornOf_len {s : Store} {plan : List Int} : (wornOf s plan).length ≤ 1000000 := by
  unfold wornOf
  split
  · rename_i he
    obtain ⟨o, -⟩ := errPlan_ok he
    have := wornL_len o (plan := plan) (Nat.le_refl _)
    have := o.k8
    omega
  · simp
theorem wearOf_len {s : Store} {plan : List Int} {kind : Int} : (wearOf s plan kind).length ≤ 1000000 := by
  unfold wearOf
  split
  · rename_i he
    by_cases hp : errPlan s plan = 0
    · obtain ⟨o, -⟩ := errPlan_ok hp
      have hk : within kind 0 (s.kinds.length - 1) = true := by
        cases q : within kind 0 (s.kinds.length - 1) with
        | true => rfl
        | false => simp [errWear, hp, q] at he
      have hk := within_iff.1 hk
      have := o.items kind.toNat (by omega)
      simp [wearL]
      omega
    · simp [errWear, hp] at he
  · simp
theorem ok7 : codeOk Try.f7.ntmps (bodyOf Try.f7) = true := by kernel_rfl
theorem wears7 {h : Hp} {kv lv pv : Value} {s : Store} {plan : List Int} (a : StoreAt h kv lv s) (p : SlOk h pv 1 plan.length (plan.map I)) (kind : Int) :
    CallX Try.prog 7 #[.agg #[kv, lv], pv, I kind] h (.bool true) h := by
  refine run_flat Tok hm Try.func7 (by kernel_rfl) (by kernel_rfl) ok7 (Nat.le_of_ble_eq_true rfl) ?_
  repeat (first
    | ((with_reducible refine call_step' (wear36 (a.grow (by simp)) (p.grow (by simp)) _) ?_); rintro v1 h1 ⟨sl1, rfl, g1, s1⟩)
    | with_reducible refine draw_enter ?_
    | with_reducible exact rok_nil
    | ((with_reducible refine rok_cons ?_ ?_); (first | exact Or.inl (by decide +kernel) | exact Or.inr (by simp [bodyOf, Try.f7]) | exact Or.inr (fun hlt => by simp [kill_none, Hp.alloc_g, Nat.ne_of_lt hlt])))
    | with_reducible refine rok_and ?_ ?_
    | ((with_reducible refine eok_cons ?_ ?_); (first | exact Or.inl (by decide +kernel) | exact Or.inr (by simp [bodyOf, Try.f7]) | exact Or.inr (fun hlt => by simp [kill_none, Hp.alloc_g, Nat.ne_of_lt hlt])))
    | with_reducible refine eok_and ?_ ?_
    | simp -implicitDefEqProofs [bodyOf, Try.f7])
  have hg : Grow h h1 := Grow.trans (by simp) g1
  have hb : h1.g h.n = .row true 2 [kv, lv] := by rw [g1.2 _ (by simp)]; simp
  have hn : h.n < h1.n := by have := g1.1; simp at this; omega
  repeat (first
    | ((with_reducible refine call_step' (wear37 (a.grow (by simp [hg])) (p.grow (by simp [hg])) _) ?_); rintro v2 h2 ⟨sl2, rfl, g2, s2⟩)
    | with_reducible refine draw_enter ?_
    | with_reducible exact rok_nil
    | ((with_reducible refine rok_cons ?_ ?_); (first | exact Or.inl (by decide +kernel) | exact Or.inr (by simp [hb, hn]) | exact Or.inr (fun hlt => by simp [kill_none, Hp.alloc_g, Nat.ne_of_lt hlt])))
    | with_reducible refine rok_and ?_ ?_
    | ((with_reducible refine eok_cons ?_ ?_); (first | exact Or.inl (by decide +kernel) | exact Or.inr (by simp [hb, hn]) | exact Or.inr (fun hlt => by simp [kill_none, Hp.alloc_g, Nat.ne_of_lt hlt])))
    | with_reducible refine eok_and ?_ ?_
    | simp -implicitDefEqProofs [hb, hn])
  have hg2 : Grow h h2 := hg.trans g2
  have hb2 : h2.g h.n = .row true 2 [kv, lv] := by rw [g2.2 _ hn]; exact hb
  have hn2 : h.n < h2.n := Nat.lt_of_lt_of_le hn g2.1
  repeat (first
    | with_reducible refine call_step (sameInts_call (s1.sl.grow g2) s2.sl wearOf_len) ?_
    | ((with_reducible refine call_step' (worn38 (a.grow (by simp [hg2])) (p.grow (by simp [hg2]))) ?_); rintro v3 h3 ⟨sl3, rfl, g3, s3⟩)
    | with_reducible refine draw_enter ?_
    | with_reducible refine q_call (sameInts_call (s1.sl.grow g2) s2.sl wearOf_len) ROk.refl ?_
    | with_reducible exact rok_nil
    | ((with_reducible refine rok_cons ?_ ?_); (first | exact Or.inl (by decide +kernel) | exact Or.inr (by simp [hg2, hb2, hn2]) | exact Or.inr (fun hlt => by simp [kill_none, Hp.alloc_g, Nat.ne_of_lt hlt])))
    | with_reducible refine rok_and ?_ ?_
    | ((with_reducible refine eok_cons ?_ ?_); (first | exact Or.inl (by decide +kernel) | exact Or.inr (by simp [hg2, hb2, hn2]) | exact Or.inr (fun hlt => by simp [kill_none, Hp.alloc_g, Nat.ne_of_lt hlt])))
    | with_reducible refine eok_and ?_ ?_
    | simp -implicitDefEqProofs [hg2, hb2, hn2])
  have hg3 : Grow h h3 := hg2.trans g3
  have hb3 : h3.g h.n = .row true 2 [kv, lv] := by rw [g3.2 _ hn2]; exact hb2
  have hn3 : h.n < h3.n := Nat.lt_of_lt_of_le hn2 g3.1
  repeat (first
    | ((with_reducible refine call_step' (worn39 (a.grow (by simp [hg3])) (p.grow (by simp [hg3]))) ?_); rintro v4 h4 ⟨sl4, rfl, g4, s4⟩)
    | with_reducible refine draw_enter ?_
    | with_reducible exact rok_nil
    | ((with_reducible refine rok_cons ?_ ?_); (first | exact Or.inl (by decide +kernel) | exact Or.inr (by simp [hg3, hb3, hn3]) | exact Or.inr (fun hlt => by simp [kill_none, Hp.alloc_g, Nat.ne_of_lt hlt])))
    | with_reducible refine rok_and ?_ ?_
    | ((with_reducible refine eok_cons ?_ ?_); (first | exact Or.inl (by decide +kernel) | exact Or.inr (by simp [hg3, hb3, hn3]) | exact Or.inr (fun hlt => by simp [kill_none, Hp.alloc_g, Nat.ne_of_lt hlt])))
    | with_reducible refine eok_and ?_ ?_
    | simp -implicitDefEqProofs [hg3, hb3, hn3])
  have hg4 : Grow h h4 := hg3.trans g4
  repeat (first
    | with_reducible refine call_step (samePairs_call (s3.sl.grow g4) s4.sl wornOf_len) ?_
    | with_reducible refine call_step (works_call _) ?_
    | with_reducible refine draw_enter ?_
    | with_reducible refine q_call (samePairs_call (s3.sl.grow g4) s4.sl wornOf_len) ROk.refl ?_
    | with_reducible refine q_call (works_call _) ROk.refl ?_
    | with_reducible exact rok_nil
    | ((with_reducible refine rok_cons ?_ ?_); (first | exact Or.inl (by decide +kernel) | exact Or.inr (by simp [hg4]) | exact Or.inr (fun hlt => by simp [kill_none, Hp.alloc_g, Nat.ne_of_lt hlt])))
    | with_reducible refine rok_and ?_ ?_
    | ((with_reducible refine eok_cons ?_ ?_); (first | exact Or.inl (by decide +kernel) | exact Or.inr (by simp [hg4]) | exact Or.inr (fun hlt => by simp [kill_none, Hp.alloc_g, Nat.ne_of_lt hlt])))
    | with_reducible refine eok_and ?_ ?_
    | simp -implicitDefEqProofs [hg4])
end Go.Proofs
