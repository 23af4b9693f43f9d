/- Part of the proofs of the laws (see the last text of a claim): contracts of functions, and what they are shown with. -/
import Derived.Test.YtohooekinfpkbaaSf
set_option linter.unusedSimpArgs false
set_option linter.unusedVariables false
open Go Go.Fw
namespace Go.Proofs
theorem alive_mono {s : Store} {k t u : Int} : ∀ {i : Nat}, (∀ x, x < i → (gL s x).kind = k → (gL s x).from_ ≤ t ∧ t ≤ (gL s x).to - 1 → (gL s x).from_ ≤ u ∧ u ≤ (gL s x).to - 1) → aliveAt s k t i ≤ aliveAt s k u i
  | 0, _ => Nat.le_refl _
  | i + 1, h => by
    have ih := alive_mono (i := i) (fun x hx => h x (by omega))
    simp only [aliveAt]
    by_cases e : (gL s i).kind = k ∧ (gL s i).from_ ≤ t ∧ t ≤ (gL s i).to - 1
    · rw [if_pos e, if_pos ⟨e.1, h i (by omega) e.1 e.2⟩]; omega
    · rw [if_neg e]; omega
theorem alive_last {s : Store} {k t : Int} : ∀ {i : Nat}, aliveAt s k t i = 0 ∨ ∃ j, j < i ∧ (gL s j).kind = k ∧ (gL s j).from_ ≤ t ∧ ∀ x, x < i → (gL s x).kind = k → (gL s x).from_ ≤ t ∧ t ≤ (gL s x).to - 1 → (gL s x).from_ ≤ (gL s j).from_
  | 0 => .inl rfl
  | i + 1 => by
    by_cases e : (gL s i).kind = k ∧ (gL s i).from_ ≤ t ∧ t ≤ (gL s i).to - 1
    · right
      rcases alive_last (s := s) (k := k) (t := t) (i := i) with h | ⟨j, hj, h1, h2, h3⟩
      · refine ⟨i, by omega, e.1, e.2.1, fun x hx hk ha => ?_⟩
        rcases Nat.lt_succ_iff_lt_or_eq.1 hx with hx | rfl
        · exfalso
          have : ∀ {m : Nat}, x < m → aliveAt s k t m ≠ 0 := fun {m} => by
            induction m with
            | zero => intro h; omega
            | succ m ih =>
              intro hm
              simp only [aliveAt]
              rcases Nat.lt_succ_iff_lt_or_eq.1 hm with hm | rfl
              · have := ih hm; omega
              · rw [if_pos ⟨hk, ha⟩]; omega
          exact this hx h
        · omega
      · by_cases hc : (gL s j).from_ ≤ (gL s i).from_
        · refine ⟨i, by omega, e.1, e.2.1, fun x hx hk ha => ?_⟩
          rcases Nat.lt_succ_iff_lt_or_eq.1 hx with hx | rfl
          · have := h3 x hx hk ha; omega
          · omega
        · refine ⟨j, by omega, h1, h2, fun x hx hk ha => ?_⟩
          rcases Nat.lt_succ_iff_lt_or_eq.1 hx with hx | rfl
          · exact h3 x hx hk ha
          · omega
    · rcases alive_last (s := s) (k := k) (t := t) (i := i) with h | ⟨j, hj, h1, h2, h3⟩
      · left; simp only [aliveAt, if_neg e, h]
      · right
        refine ⟨j, by omega, h1, h2, fun x hx hk ha => ?_⟩
        rcases Nat.lt_succ_iff_lt_or_eq.1 hx with hx | rfl
        · exact h3 x hx hk ha
        · exact absurd ⟨hk, ha⟩ e
theorem peakB_ge {s : Store} {k : Int} {j : Nat} (hk : (gL s j).kind = k) : ∀ {i : Nat}, j < i → aliveAt s k (gL s j).from_ s.loans.length ≤ peakB s k i
  | i + 1, h => by
    simp only [peakB]
    rcases Nat.lt_succ_iff_lt_or_eq.1 h with h | rfl
    · have := peakB_ge hk h; omega
    · rw [if_pos hk]; omega
theorem alive_peak {s : Store} {k t : Int} : aliveAt s k t s.loans.length ≤ peakB s k s.loans.length := by
  rcases alive_last (s := s) (k := k) (t := t) (i := s.loans.length) with h | ⟨j, hj, h1, h2, h3⟩
  · omega
  · refine Nat.le_trans (alive_mono (u := (gL s j).from_) fun x hx hk ha => ⟨h3 x hx hk ha, by omega⟩) (peakB_ge h1 hj)
def peakR (s : Store) (k : Int) : Nat → Nat
  | 0 => 0
  | i + 1 => max (peakR s k i) (aliveAt s k (gL s i).from_ s.loans.length)
theorem peakR_le {s : Store} {k : Int} : ∀ {i : Nat}, peakR s k i ≤ peakB s k s.loans.length
  | 0 => Nat.zero_le _
  | i + 1 => by
    have h1 := peakR_le (s := s) (k := k) (i := i)
    have h2 := alive_peak (s := s) (k := k) (t := (gL s i).from_)
    simp only [peakR]; omega
theorem peakR_ge {s : Store} {k : Int} : ∀ {i : Nat}, peakB s k i ≤ peakR s k i
  | 0 => Nat.le_refl _
  | i + 1 => by
    have h1 := peakR_ge (s := s) (k := k) (i := i)
    simp only [peakR, peakB]
    split <;> omega
theorem peakR_eq {s : Store} {k : Int} : peakR s k s.loans.length = peakB s k s.loans.length := Nat.le_antisymm peakR_le peakR_ge
attribute [local irreducible] Run RunOps RunDraw pop condK guardK guardKD resK drawK RunD dK Fw.gK
set_option maxRecDepth 4000
theorem ok19 : codeOk Try.f19.ntmps (bodyOf Try.f19) = true := by kernel_rfl
theorem peak19 {h : Hp} {kv lv : Value} {s : Store} (a : StoreAt h kv lv s) (kind : Int) :
    CallX Try.prog 19 #[.agg #[kv, lv], I kind] h (.tuple #[I (if errKind s kind = 0 then (peakB s kind s.loans.length : Int) else 0), I (errKind s kind)]) h := by
  refine run_flat Tok hm Try.func19 (by kernel_rfl) (by kernel_rfl) ok19 (Nat.le_of_ble_eq_true rfl) ?_
  have hc := checkKind54 (a.grow (g1 (h := h) (kv := kv) (lv := lv))) kind
  by_cases he : errKind s kind = 0
  case neg =>
    rw [show (if okStore s then (if within kind 0 (s.kinds.length - 1) then 0 else 1) else 100 : Int) = errKind s kind from rfl] at hc
    repeat (first
      | with_reducible refine call_step (hc) ?_
      | with_reducible refine draw_enter ?_
      | with_reducible refine q_call (hc) ROk.refl ?_
      | with_reducible exact rok_nil
      | ((with_reducible refine rok_cons ?_ ?_); (first | exact Or.inl (by decide +kernel) | exact Or.inr (by simp [bodyOf, Try.f19, he]) | exact Or.inr (fun hlt => by simp [kill_none, Hp.alloc_g, Nat.ne_of_lt hlt])))
      | with_reducible refine rok_and ?_ ?_
      | ((with_reducible refine eok_cons ?_ ?_); (first | exact Or.inl (by decide +kernel) | exact Or.inr (by simp [bodyOf, Try.f19, he]) | exact Or.inr (fun hlt => by simp [kill_none, Hp.alloc_g, Nat.ne_of_lt hlt])))
      | with_reducible refine eok_and ?_ ?_
      | simp -implicitDefEqProofs [bodyOf, Try.f19, he])
  rw [show (if okStore s then (if within kind 0 (s.kinds.length - 1) then 0 else 1) else 100 : Int) = 0 from he] at hc
  obtain ⟨o, -, -⟩ := errKind_ok he
  have l20 := o.l20
  rw [← peakR_eq]
  repeat (first
    | with_reducible refine call_step (hc) ?_
    | with_reducible refine draw_enter ?_
    | with_reducible refine q_call (hc) ROk.refl ?_
    | with_reducible exact rok_nil
    | ((with_reducible refine rok_cons ?_ ?_); (first | exact Or.inl (by decide +kernel) | exact Or.inr (by simp [bodyOf, Try.f19, he, a.loans.len]) | exact Or.inr (fun hlt => by simp [kill_none, Hp.alloc_g, Nat.ne_of_lt hlt])))
    | with_reducible refine rok_and ?_ ?_
    | ((with_reducible refine eok_cons ?_ ?_); (first | exact Or.inl (by decide +kernel) | exact Or.inr (by simp [bodyOf, Try.f19, he, a.loans.len]) | exact Or.inr (fun hlt => by simp [kill_none, Hp.alloc_g, Nat.ne_of_lt hlt])))
    | with_reducible refine eok_and ?_ ?_
    | simp -implicitDefEqProofs [bodyOf, Try.f19, he, a.loans.len])
  refine run_for Tok hm (by kernel_rfl) [7, 8, 9, 10, 11, 18, 19, 20, 21, 22, 23, 24, 25, 26, 27, 28, 29, 30, 31, 32, 33, 34, 35, 36, 37, 38, 39, 40, 41, 42, 43, 44, 45, 46, 47, 48, 49, 50, 51, 52, 53, 54, 55, 56, 57, 58, 59] (by kernel_rfl) (h.n + 1) s.loans.length (fun i f h1 => f 8 = I i ∧ f 7 = I (peakR s kind i)) ?_ ?_ ?_
  · simp [peakR]
  · rintro i f h1 hi ⟨h8, h7⟩ fr hu
    have hb : h1.g h.n = .row true 2 [kv, lv] := by rw [hu.2 _ (by simp)]; simp
    have hn : h.n + 1 ≤ h1.n := by have := hu.1; simpa using this
    have hn0 : h.n < h1.n := by omega
    have hw := wrap_succ hi (by omega)
    repeat (first
      | with_reducible refine draw_enter ?_
      | with_reducible exact rok_nil
      | ((with_reducible refine rok_cons ?_ ?_); (first | exact Or.inl (by decide +kernel) | exact Or.inr (by simp [h8, fr, hb, hn0, a.loans.len, hi]) | exact Or.inr (fun hlt => by simp [kill_none, Hp.alloc_g, Nat.ne_of_lt hlt])))
      | with_reducible refine rok_and ?_ ?_
      | ((with_reducible refine eok_cons ?_ ?_); (first | exact Or.inl (by decide +kernel) | exact Or.inr (by simp [h8, fr, hb, hn0, a.loans.len, hi]) | exact Or.inr (fun hlt => by simp [kill_none, Hp.alloc_g, Nat.ne_of_lt hlt])))
      | with_reducible refine eok_and ?_ ?_
      | simp -implicitDefEqProofs [h8, fr, hb, hn0, a.loans.len, hi])
    refine run_for Tok hm (by kernel_rfl) [9, 10, 11, 25, 26, 27, 28, 29, 30, 31, 32, 33, 34, 35, 36, 37, 38, 39, 40, 41, 42, 43, 44, 45, 46, 47, 48, 49, 50, 51, 52, 53, 54, 55, 56] (by kernel_rfl) (h.n + 1) s.loans.length (fun k f3 h3 => f3 10 = I k ∧ f3 9 = I (aliveAt s kind (gL s i).from_ k)) ?_ ?_ ?_
    · simp [aliveAt]
    · rintro k f3 h3 hk ⟨h10, h9⟩ fr3 hu3
      have hu' := hu.trans hu3
      have hb3 : h3.g h.n = .row true 2 [kv, lv] := by rw [hu'.2 _ (by simp)]; simp
      have hn3 : h.n + 1 ≤ h3.n := by have := hu3.1; omega
      have hn03 : h.n < h3.n := by omega
      have hg3 : Grow h h3 := hu'.grow (by simp) (by simp)
      have a3 := a.grow hg3
      have r3 := a3.loans.ref (by omega)
      have lt3 := a3.loans.lt (by omega)
      have l3 := ld_loan a3 hk
      have lf := ld_loanF a3 hi 2 (by omega)
      have v3 := a3.loans.vr.up (Nat.le_succ h3.n)
      have e3 : (h.n = h3.n) = False := by simp; omega
      have hwk := wrap_succ hk (by omega)
      have hto := o.to k hk
      have hwt : IntKind.i64.wrap ((gL s k).to - 1) = (gL s k).to - 1 := IntWalk.i64_in _ (by omega)
      have hal := aliveAt_le (s := s) (kind := kind) (t := (gL s i).from_) (k := k)
      by_cases c2 : (gL s k).kind = kind
      case neg =>
        have hs : aliveAt s kind (gL s i).from_ (k + 1) = aliveAt s kind (gL s i).from_ k := by simp [aliveAt, c2]
        repeat (first
          | with_reducible refine draw_enter ?_
          | with_reducible exact rok_nil
          | ((with_reducible refine rok_cons ?_ ?_); (first | exact Or.inl (by decide +kernel) | exact Or.inr (by simp [h10, h9, h8, fr3, fr, hb3, hn03, hn3, a.loans.len, r3, lt3, l3, lf, rdK, Loan.cells, hk, hi, v3, e3, hwk, c2, hs]) | exact Or.inr (fun hlt => by simp [kill_none, Hp.alloc_g, Nat.ne_of_lt hlt])))
          | with_reducible refine rok_and ?_ ?_
          | ((with_reducible refine eok_cons ?_ ?_); (first | exact Or.inl (by decide +kernel) | exact Or.inr (by simp [h10, h9, h8, fr3, fr, hb3, hn03, hn3, a.loans.len, r3, lt3, l3, lf, rdK, Loan.cells, hk, hi, v3, e3, hwk, c2, hs]) | exact Or.inr (fun hlt => by simp [kill_none, Hp.alloc_g, Nat.ne_of_lt hlt])))
          | with_reducible refine eok_and ?_ ?_
          | simp -implicitDefEqProofs [h10, h9, h8, fr3, fr, hb3, hn03, hn3, a.loans.len, r3, lt3, l3, lf, rdK, Loan.cells, hk, hi, v3, e3, hwk, c2, hs])
      have hww : IntKind.i64.wrap ((aliveAt s kind (gL s i).from_ k : Int) + 1) = (aliveAt s kind (gL s i).from_ k : Int) + 1 := IntWalk.i64_in _ (by omega)
      cases c3 : within (gL s i).from_ (gL s k).from_ ((gL s k).to - 1) with
      | false =>
        have hs : aliveAt s kind (gL s i).from_ (k + 1) = aliveAt s kind (gL s i).from_ k := by
          simp only [aliveAt]
          rw [if_neg]
          · rfl
          · rintro ⟨-, h1, h2⟩
            have := within_iff.2 ⟨h1, h2⟩
            rw [c3] at this
            cases this
        repeat (first
          | with_reducible refine call_step (within55 _ _ _ _) ?_
          | with_reducible refine draw_enter ?_
          | with_reducible refine q_call (within55 _ _ _ _) ROk.refl ?_
          | with_reducible exact rok_nil
          | ((with_reducible refine rok_cons ?_ ?_); (first | exact Or.inl (by decide +kernel) | exact Or.inr (by simp [h10, h9, h8, fr3, fr, hb3, hn03, hn3, a.loans.len, r3, lt3, l3, lf, rdK, Loan.cells, hk, hi, v3, e3, hwk, c2, c3, hs, hwt]) | exact Or.inr (fun hlt => by simp [kill_none, Hp.alloc_g, Nat.ne_of_lt hlt])))
          | with_reducible refine rok_and ?_ ?_
          | ((with_reducible refine eok_cons ?_ ?_); (first | exact Or.inl (by decide +kernel) | exact Or.inr (by simp [h10, h9, h8, fr3, fr, hb3, hn03, hn3, a.loans.len, r3, lt3, l3, lf, rdK, Loan.cells, hk, hi, v3, e3, hwk, c2, c3, hs, hwt]) | exact Or.inr (fun hlt => by simp [kill_none, Hp.alloc_g, Nat.ne_of_lt hlt])))
          | with_reducible refine eok_and ?_ ?_
          | simp -implicitDefEqProofs [h10, h9, h8, fr3, fr, hb3, hn03, hn3, a.loans.len, r3, lt3, l3, lf, rdK, Loan.cells, hk, hi, v3, e3, hwk, c2, c3, hs, hwt])
      | true =>
        have hs : aliveAt s kind (gL s i).from_ (k + 1) = aliveAt s kind (gL s i).from_ k + 1 := by
          simp only [aliveAt]
          rw [if_pos ⟨c2, within_iff.1 c3⟩]
        repeat (first
          | with_reducible refine call_step (within55 _ _ _ _) ?_
          | with_reducible refine draw_enter ?_
          | with_reducible refine q_call (within55 _ _ _ _) ROk.refl ?_
          | with_reducible exact rok_nil
          | ((with_reducible refine rok_cons ?_ ?_); (first | exact Or.inl (by decide +kernel) | exact Or.inr (by simp [h10, h9, h8, fr3, fr, hb3, hn03, hn3, a.loans.len, r3, lt3, l3, lf, rdK, Loan.cells, hk, hi, v3, e3, hwk, c2, c3, hs, hwt, hww]) | exact Or.inr (fun hlt => by simp [kill_none, Hp.alloc_g, Nat.ne_of_lt hlt])))
          | with_reducible refine rok_and ?_ ?_
          | ((with_reducible refine eok_cons ?_ ?_); (first | exact Or.inl (by decide +kernel) | exact Or.inr (by simp [h10, h9, h8, fr3, fr, hb3, hn03, hn3, a.loans.len, r3, lt3, l3, lf, rdK, Loan.cells, hk, hi, v3, e3, hwk, c2, c3, hs, hwt, hww]) | exact Or.inr (fun hlt => by simp [kill_none, Hp.alloc_g, Nat.ne_of_lt hlt])))
          | with_reducible refine eok_and ?_ ?_
          | simp -implicitDefEqProofs [h10, h9, h8, fr3, fr, hb3, hn03, hn3, a.loans.len, r3, lt3, l3, lf, rdK, Loan.cells, hk, hi, v3, e3, hwk, c2, c3, hs, hwt, hww])
    · rintro f3 h3 ⟨h10, h9⟩ fr3 hu3
      have hu' := hu.trans hu3
      have hb3 : h3.g h.n = .row true 2 [kv, lv] := by rw [hu'.2 _ (by simp)]; simp
      have hn03 : h.n < h3.n := by have := hu3.1; omega
      repeat (first
        | with_reducible refine draw_enter ?_
        | with_reducible exact rok_nil
        | ((with_reducible refine rok_cons ?_ ?_); (first | exact Or.inl (by decide +kernel) | exact Or.inr (by simp [h10, h9, h8, h7, fr3, fr, hb3, hn03, a.loans.len, hw, hu3]) | exact Or.inr (fun hlt => by simp [kill_none, Hp.alloc_g, Nat.ne_of_lt hlt])))
        | with_reducible refine rok_and ?_ ?_
        | ((with_reducible refine eok_cons ?_ ?_); (first | exact Or.inl (by decide +kernel) | exact Or.inr (by simp [h10, h9, h8, h7, fr3, fr, hb3, hn03, a.loans.len, hw, hu3]) | exact Or.inr (fun hlt => by simp [kill_none, Hp.alloc_g, Nat.ne_of_lt hlt])))
        | with_reducible refine eok_and ?_ ?_
        | simp -implicitDefEqProofs [h10, h9, h8, h7, fr3, fr, hb3, hn03, a.loans.len, hw, hu3])
      have hp : peakR s kind (i + 1) = max (peakR s kind i) (aliveAt s kind (gL s i).from_ s.loans.length) := rfl
      rw [hp]
      split <;> omega
  · rintro f h1 ⟨h8, h7⟩ fr hu
    have hg : Grow h h1 := hu.grow (by simp) (by simp)
    have hb : h1.g h.n = .row true 2 [kv, lv] := by rw [hu.2 _ (by simp)]; simp
    have hn0 : h.n < h1.n := by have := hu.1; simp at this; omega
    repeat (first
      | with_reducible refine draw_enter ?_
      | with_reducible exact rok_nil
      | ((with_reducible refine rok_cons ?_ ?_); (first | exact Or.inl (by decide +kernel) | exact Or.inr (by simp [h8, h7, fr, hb, hn0, a.loans.len, hg]) | exact Or.inr (fun hlt => by simp [kill_none, Hp.alloc_g, Nat.ne_of_lt hlt])))
      | with_reducible refine rok_and ?_ ?_
      | ((with_reducible refine eok_cons ?_ ?_); (first | exact Or.inl (by decide +kernel) | exact Or.inr (by simp [h8, h7, fr, hb, hn0, a.loans.len, hg]) | exact Or.inr (fun hlt => by simp [kill_none, Hp.alloc_g, Nat.ne_of_lt hlt])))
      | with_reducible refine eok_and ?_ ?_
      | simp -implicitDefEqProofs [h8, h7, fr, hb, hn0, a.loans.len, hg])
end Go.Proofs
