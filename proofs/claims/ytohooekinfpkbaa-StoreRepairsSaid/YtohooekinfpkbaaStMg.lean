/- Part of the proofs of the laws (see the last text of a claim): contracts of functions, and what they are shown with. -/
import Derived.Test.YtohooekinfpkbaaStRd
import Derived.Test.YtohooekinfpkbaaStMf
set_option linter.unusedSimpArgs false
set_option linter.unusedVariables false
open Go Go.Fw
namespace Go.Proofs
/-! ### The plain law of the repair. -/
def V (lost : Int) (r : Nat) (x : Bench) (its : List Nat) : Prop := its.length = r ∧ Comp x its ∧ ∀ n ∈ its, (n : Int) ≠ lost
def chg (plan : List Int) : Bench → List Nat → Nat
  | _, [] => 0
  | x, n :: t => (if gI plan (curL x) = n then 0 else 1) + chg plan (lendB x (curL x) n) t
def castI (its : List Nat) : List Int := its.map fun (n : Nat) => (n : Int)
structure Found (plan : List Int) (P : List Nat → Prop) (x : Bench) (ch : Int) (R res : RSt) (t : List Nat) : Prop where
  p : P t
  best : res.best = some (x.items ++ castI t)
  most : res.most = ch + chg plan x t
  less : R.best.isSome = true → res.most < R.most
  least : ∀ its, P its → chg plan x t < chg plan x its ∨ (chg plan x t = chg plan x its ∧ LexL t its)
def Good (plan : List Int) (P : List Nat → Prop) (x : Bench) (ch : Int) (R res : RSt) : Prop :=
  (res = R ∧ ∀ its, P its → R.best.isSome = true ∧ R.most ≤ ch + chg plan x its) ∨ ∃ t, Found plan P x ch R res t
theorem Good.congr {plan : List Int} {P P' : List Nat → Prop} {x : Bench} {ch : Int} {R res : RSt} (h : ∀ its, P' its ↔ P its) (g : Good plan P x ch R res) : Good plan P' x ch R res := by
  have : P' = P := funext fun its => propext (h its)
  rw [this]; exact g
theorem look_good {plan : List Int} {lost : Int} : ∀ {r : Nat} {x : Bench} {ch : Int} {R : RSt}, Good plan (V lost r x) x ch R (lookF plan lost r x ch R)
  | 0, x, ch, R => by
    unfold lookF
    cases hc : cutR ch R with
    | true =>
      simp only [cutR, Bool.and_eq_true, decide_eq_true_eq] at hc
      exact .inl ⟨rfl, fun its h => ⟨hc.1, by omega⟩⟩
    | false =>
      refine .inr ⟨[], ⟨rfl, trivial, by simp⟩, by simp [castI], by simp [chg], fun hs => ?_, fun its h => .inr ⟨?_, trivial⟩⟩
      · simp only [cutR, hs, Bool.true_and, decide_eq_false_iff_not] at hc
        simp only [Bool.false_eq_true, if_false]
        omega
      · have := List.eq_nil_of_length_eq_zero h.1
        subst this; rfl
  | r + 1, x, ch, R => by
    cases hc : cutR ch R with
    | true =>
      have : lookF plan lost (r + 1) x ch R = R := by simp [lookF, hc]
      rw [this]
      simp only [cutR, Bool.and_eq_true, decide_eq_true_eq] at hc
      exact .inl ⟨rfl, fun its h => ⟨hc.1, by omega⟩⟩
    | false =>
      rw [lookF_succ hc]
      have key : ∀ k, k ≤ x.lent.length → Good plan (fun its => V lost (r + 1) x its ∧ ∃ n t, its = n :: t ∧ n < k) x ch R (lookA plan lost r x ch R k) := fun k => by
        induction k with
        | zero => exact fun _ => .inl ⟨rfl, fun its h => by obtain ⟨-, n, t, -, hn⟩ := h; omega⟩
        | succ k ihk =>
          intro hk
          have ih := ihk (by omega)
          rw [lookA_succ]
          obtain ⟨A, hA⟩ : ∃ A, A = lookA plan lost r x ch R k := ⟨_, rfl⟩
          rw [← hA] at ih ⊢
          unfold lookG
          have hcur : gN x.loans x.items.length = curL x := rfl
          rw [hcur]
          by_cases hs : (decide ((k : Int) = lost) || !fitsB x (curL x) k) = true
          · rw [if_pos hs]
            refine ih.congr fun its => ⟨fun ⟨hv, n, t, e, hn⟩ => ⟨hv, n, t, e, ?_⟩, fun ⟨hv, n, t, e, hn⟩ => ⟨hv, n, t, e, by omega⟩⟩
            rcases Nat.lt_succ_iff_lt_or_eq.1 hn with hn | rfl
            · exact hn
            · exfalso
              subst e
              rw [Bool.or_eq_true, decide_eq_true_eq, Bool.not_eq_true'] at hs
              rcases hs with hs | hs
              · exact hv.2.2 n (by simp) hs
              · have := hv.2.1.2.1; rw [hs] at this; cases this
          · rw [if_neg hs]
            simp only [Bool.or_eq_true, decide_eq_true_eq, Bool.not_eq_true', not_or, Bool.not_eq_false] at hs
            obtain ⟨d, hd⟩ : ∃ d : Nat, d = if gI plan (curL x) = k then 0 else 1 := ⟨_, rfl⟩
            have hdi : (if gI plan (curL x) = (k : Int) then (0 : Int) else 1) = d := by rw [hd]; split <;> rfl
            rw [hdi]
            have g2 := look_good (plan := plan) (lost := lost) (r := r) (x := lendB x (curL x) k) (ch := ch + d) (R := A)
            obtain ⟨B, hB⟩ : ∃ B, B = lookF plan lost r (lendB x (curL x) k) (ch + d) A := ⟨_, rfl⟩
            rw [← hB] at g2 ⊢
            have hchg : ∀ t, chg plan x (k :: t) = d + chg plan (lendB x (curL x) k) t := fun t => by rw [chg, hd]
            have hV : ∀ t, V lost (r + 1) x (k :: t) ↔ V lost r (lendB x (curL x) k) t := fun t => by
              constructor
              · rintro ⟨h1, ⟨-, -, h2⟩, h3⟩
                exact ⟨by simpa using h1, h2, fun n hn => h3 n (by simp [hn])⟩
              · rintro ⟨h1, h2, h3⟩
                exact ⟨by simp [h1], ⟨by omega, hs.2, h2⟩, fun n hn => by
                  rcases List.mem_cons.1 hn with rfl | hn
                  · exact hs.1
                  · exact h3 n hn⟩
            rcases g2 with ⟨rfl, h2⟩ | ⟨t2, f2⟩
            · rcases ih with ⟨rfl, h1⟩ | ⟨t1, f1⟩
              · refine .inl ⟨rfl, fun its h => ?_⟩
                obtain ⟨hv, n, t, rfl, hn⟩ := h
                rcases Nat.lt_succ_iff_lt_or_eq.1 hn with hn | rfl
                · exact h1 _ ⟨hv, n, t, rfl, hn⟩
                · have := h2 t ((hV t).1 hv)
                  rw [hchg]
                  exact ⟨this.1, by omega⟩
              · refine .inr ⟨t1, ⟨f1.p.1, ?_⟩, f1.best, f1.most, f1.less, fun its h => ?_⟩
                · obtain ⟨n, t, e, hn⟩ := f1.p.2
                  exact ⟨n, t, e, by omega⟩
                · obtain ⟨hv, n, t, rfl, hn⟩ := h
                  rcases Nat.lt_succ_iff_lt_or_eq.1 hn with hn | rfl
                  · exact f1.least _ ⟨hv, n, t, rfl, hn⟩
                  · have h3 := (h2 t ((hV t).1 hv)).2
                    have h4 := f1.most
                    have h5 := hchg t
                    have h6 : chg plan x t1 ≤ chg plan x (n :: t) := by omega
                    rcases Nat.lt_or_eq_of_le h6 with h7 | h7
                    · exact .inl h7
                    · obtain ⟨m, u, e, hm⟩ := f1.p.2
                      subst e
                      exact .inr ⟨h7, .inl hm⟩
            · have hm2 := f2.most
              refine .inr ⟨k :: t2, ⟨(hV t2).2 f2.p, k, t2, rfl, by omega⟩, ?_, ?_, ?_, ?_⟩
              · rw [f2.best]; simp [lendB, castI]
              · rw [hm2, hchg]; omega
              · intro hsm
                rcases ih with ⟨e, h1⟩ | ⟨t1, f1⟩
                · rw [← e] at hsm ⊢; exact f2.less hsm
                · have := f1.less hsm
                  have := f2.less (by rw [f1.best]; rfl)
                  omega
              · rintro its ⟨hv, n, t, rfl, hn⟩
                rcases Nat.lt_succ_iff_lt_or_eq.1 hn with hn | rfl
                · left
                  rcases ih with ⟨e, h1⟩ | ⟨t1, f1⟩
                  · obtain ⟨h3, h4⟩ := h1 _ ⟨hv, n, t, rfl, hn⟩
                    have := f2.less (by rw [e]; exact h3)
                    rw [e] at this
                    rw [hchg]; omega
                  · have h3 := f1.least _ ⟨hv, n, t, rfl, hn⟩
                    have h4 := f2.less (by rw [f1.best]; rfl)
                    have h5 := f1.most
                    rw [hchg]
                    rcases h3 with h3 | ⟨h3, -⟩ <;> omega
                · rw [hchg, hchg]
                  rcases f2.least t ((hV t).1 hv) with h3 | ⟨h3, h4⟩
                  · exact .inl (by omega)
                  · exact .inr ⟨by omega, .inr ⟨rfl, h4⟩⟩
      refine (key _ (Nat.le_refl _)).congr fun its => ⟨fun hv => ⟨hv, ?_⟩, fun hv => hv.1⟩
      obtain ⟨h1, h2, -⟩ := hv
      cases its with
      | nil => simp at h1
      | cons n t => exact ⟨n, t, rfl, h2.1⟩
end Go.Proofs
