/- Part of the proofs of the laws (see the last text of a claim): contracts of functions, and what they are shown with. -/
import Derived.Test.YtohooekinfpkbaaSb
import Derived.Test.YtohooekinfpkbaaStW
set_option linter.unusedSimpArgs false
set_option linter.unusedVariables false
open Go Go.Fw
namespace Go.Proofs
attribute [local irreducible] Run RunOps RunDraw pop condK guardK guardKD resK drawK RunD dK gK
set_option maxRecDepth 4000
theorem ok5 : codeOk Try.f5.ntmps (bodyOf Try.f5) = true := by kernel_rfl
theorem frees5 {h : Hp} {kv lv pv : Value} {s : Store} {plan : List Int} (a : StoreAt h kv lv s) (p : SlOk h pv 1 plan.length (plan.map I)) (kind from_ to : Int) :
    CallX Try.prog 5 #[.agg #[kv, lv], pv, .agg #[I kind, I from_, I to]] h (.bool true) h := by
  refine run_flat Tok hm Try.func5 (by kernel_rfl) (by kernel_rfl) ok5 (Nat.le_of_ble_eq_true rfl) ?_
  repeat (first
    | ((with_reducible refine call_step' (free27 (a.grow (by simp)) (p.grow (by simp)) _ _ _) ?_); rintro v1 h1 ⟨sl1, rfl, g1, s1⟩)
    | with_reducible refine draw_enter ?_
    | with_reducible exact rok_nil
    | ((with_reducible refine rok_cons ?_ ?_); (first | exact Or.inl (by decide +kernel) | exact Or.inr (by simp [bodyOf, Try.f5]) | exact Or.inr (fun hlt => by simp [kill_none, Hp.alloc_g, Nat.ne_of_lt hlt])))
    | with_reducible refine rok_and ?_ ?_
    | ((with_reducible refine eok_cons ?_ ?_); (first | exact Or.inl (by decide +kernel) | exact Or.inr (by simp [bodyOf, Try.f5]) | exact Or.inr (fun hlt => by simp [kill_none, Hp.alloc_g, Nat.ne_of_lt hlt])))
    | with_reducible refine eok_and ?_ ?_
    | simp -implicitDefEqProofs [bodyOf, Try.f5])
  have hg : Grow h h1 := Grow.trans (by simp) g1
  have hb : h1.g h.n = .row true 2 [kv, lv] := by rw [g1.2 _ (by simp <;> omega)]; simp
  have hb2 : h1.g (h.n + 1) = .row true 3 [I kind, I from_, I to] := by rw [g1.2 _ (by simp)]; simp
  have hn : h.n + 1 < h1.n := by have := g1.1; simp at this; omega
  have hn0 : h.n < h1.n := by omega
  repeat (first
    | ((with_reducible refine call_step' (free28 (a.grow (by simp [hg])) (p.grow (by simp [hg])) _ _ _) ?_); rintro v2 h2 ⟨sl2, rfl, g2, s2⟩)
    | with_reducible refine draw_enter ?_
    | with_reducible exact rok_nil
    | ((with_reducible refine rok_cons ?_ ?_); (first | exact Or.inl (by decide +kernel) | exact Or.inr (by simp [hb, hb2, hn, hn0]) | exact Or.inr (fun hlt => by simp [kill_none, Hp.alloc_g, Nat.ne_of_lt hlt])))
    | with_reducible refine rok_and ?_ ?_
    | ((with_reducible refine eok_cons ?_ ?_); (first | exact Or.inl (by decide +kernel) | exact Or.inr (by simp [hb, hb2, hn, hn0]) | exact Or.inr (fun hlt => by simp [kill_none, Hp.alloc_g, Nat.ne_of_lt hlt])))
    | with_reducible refine eok_and ?_ ?_
    | simp -implicitDefEqProofs [hb, hb2, hn, hn0])
  have hg2 : Grow h h2 := hg.trans g2
  have hlen : (freeOf s plan kind from_ to).length ≤ 1000000 := by
    unfold freeOf
    split
    · rename_i he
      have hp : errPlan s plan = 0 := by
        unfold errFree at he
        split at he
        · exact he
        · rename_i h'; simpa using h'
      obtain ⟨o, -⟩ := errPlan_ok hp
      have hk : within kind 0 (s.kinds.length - 1) = true := by
        cases q : within kind 0 (s.kinds.length - 1) with
        | true => rfl
        | false => simp [errFree, hp, q] at he
      have hk := within_iff.1 hk
      have := o.items kind.toNat (by omega)
      have := freeL_len (s := s) (plan := plan) (w := ⟨kind, 0, from_, to, 0⟩) (k := (gK s kind.toNat).items.toNat)
      omega
    · simp
  repeat (first
    | with_reducible refine call_step (sameInts_call (s1.sl.grow g2) s2.sl hlen) ?_
    | with_reducible refine call_step (works_call _) ?_
    | with_reducible refine draw_enter ?_
    | with_reducible refine q_call (sameInts_call (s1.sl.grow g2) s2.sl hlen) ROk.refl ?_
    | with_reducible refine q_call (works_call _) ROk.refl ?_
    | with_reducible exact rok_nil
    | ((with_reducible refine rok_cons ?_ ?_); (first | exact Or.inl (by decide +kernel) | exact Or.inr (by simp [hg2]) | exact Or.inr (fun hlt => by simp [kill_none, Hp.alloc_g, Nat.ne_of_lt hlt])))
    | with_reducible refine rok_and ?_ ?_
    | ((with_reducible refine eok_cons ?_ ?_); (first | exact Or.inl (by decide +kernel) | exact Or.inr (by simp [hg2]) | exact Or.inr (fun hlt => by simp [kill_none, Hp.alloc_g, Nat.ne_of_lt hlt])))
    | with_reducible refine eok_and ?_ ?_
    | simp -implicitDefEqProofs [hg2])
end Go.Proofs
