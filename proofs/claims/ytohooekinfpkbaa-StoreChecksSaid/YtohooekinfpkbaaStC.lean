/- Part of the proofs of the laws (see the last text of a claim): contracts of functions. -/
import Derived.Test.YtohooekinfpkbaaStB
set_option linter.unusedSimpArgs false
set_option linter.unusedVariables false
open Go Go.Fw
namespace Go.Proofs
attribute [local irreducible] Run RunOps RunDraw pop condK guardK guardKD resK drawK
set_option maxRecDepth 4000
/-- A store: its two lists, and where they lie. -/
structure Store where
  kinds : List Stuff
  loans : List Loan
structure StoreAt (h : Hp) (kv lv : Value) (s : Store) : Prop where
  kinds : SlOk h kv 2 s.kinds.length (s.kinds.flatMap Stuff.cells)
  loans : SlOk h lv 5 s.loans.length (s.loans.flatMap Loan.cells)
theorem StoreAt.grow {h h' : Hp} {kv lv : Value} {s : Store} (a : StoreAt h kv lv s) (g : Grow h h') : StoreAt h' kv lv s := ⟨a.kinds.grow g, a.loans.grow g⟩
def badLoan (n : Nat) (l : Loan) : Bool := !within l.kind 0 (n - 1) || !within l.room 0 100 || !within l.to 1 1440 || !within l.from_ 0 (IntKind.i64.wrap (l.to - 1)) || !within l.uses 0 100
def okStore (s : Store) : Bool := decide (s.kinds.length ≤ 8) && decide (s.loans.length ≤ 20) && !s.kinds.any badKind && !s.loans.any (badLoan s.kinds.length)
def errStore (s : Store) : Int := if okStore s then 0 else 100
theorem ok29 : codeOk Try.f29.ntmps (bodyOf Try.f29) = true := by kernel_rfl
theorem check29 {h : Hp} {kv lv : Value} {s : Store} (a : StoreAt h kv lv s) : CallX Try.prog 29 #[.agg #[kv, lv]] h (I (errStore s)) h := by
  refine run_flat Tok hm Try.func29 (by kernel_rfl) (by kernel_rfl) ok29 (Nat.le_of_ble_eq_true rfl) ?_
  by_cases k8 : s.kinds.length ≤ 8
  case neg =>
    have e1 : decide ((8 : Int) < s.kinds.length) = true := by simp; omega
    simp -implicitDefEqProofs [bodyOf, Try.f29, a.kinds.len, a.loans.len, e1, errStore, okStore, k8]
  by_cases l20 : s.loans.length ≤ 20
  case neg =>
    have e1 : decide ((8 : Int) < s.kinds.length) = false := by simp; omega
    have e2 : decide ((20 : Int) < s.loans.length) = true := by simp; omega
    simp -implicitDefEqProofs [bodyOf, Try.f29, a.kinds.len, a.loans.len, e1, e2, errStore, okStore, k8, l20]
  have e1 : decide ((8 : Int) < s.kinds.length) = false := by simp; omega
  have e2 : decide ((20 : Int) < s.loans.length) = false := by simp; omega
  simp -implicitDefEqProofs [bodyOf, Try.f29, a.kinds.len, a.loans.len, e1, e2]
  with_reducible refine call_step (contains68 (xs := s.kinds) (p := badKind) (fi := #[]) (ca := #[]) (by omega) (a.kinds.grow (by simp)) (fun h' _ k _ => by simpa using badKind_call k h')) ?_
  simp -implicitDefEqProofs
  with_reducible refine c_split ?_ ?_ <;> intro hk <;> simp -implicitDefEqProofs [hk, a.loans.len]
  · simp [errStore, okStore, hk]
  have hwk : IntKind.i64.wrap ((s.kinds.length : Int) - 1) = (s.kinds.length : Int) - 1 := IntWalk.i64_in _ (by omega)
  refine run_loop Tok hm (by kernel_rfl) (fun m f h1 => ∃ i, i ≤ s.loans.length ∧ m = s.loans.length - i ∧ f 21 = I i ∧ f 20 = I s.loans.length ∧ f 19 = lv ∧ f 1 = .pointer (some ⟨h.n, 0, none⟩) ∧ Grow h h1 ∧ h.n < h1.n ∧ h1.g h.n = .row true 2 [kv, lv] ∧
    ∀ j (hj : j < s.loans.length), j < i → badLoan s.kinds.length s.loans[j] = false) ?_ s.loans.length ?_
  · rintro m f h1 ⟨i, hi, rfl, h21, h20, h19, hp, hg, hlt1, hrow, hall⟩
    simp -implicitDefEqProofs [h21, h20]
    with_reducible refine c_split ?_ ?_ <;> intro hb
    · have hlt : i < s.loans.length := by simpa using hb
      have hs1 := a.loans.grow hg
      have href := hs1.ref (by omega)
      have hld := ld_rec (enc := Loan.cells) (sz := 5) (fun _ => rfl) hs1 hlt rfl
      simp -implicitDefEqProofs [h21, h20, h19, href, hld, hlt, hp, hrow, hlt1, a.kinds.len, hwk]
      generalize hl : s.loans[i] = l at *
      cases hbad : badLoan s.kinds.length l with
      | true =>
        have herr : errStore s = 100 := by
          have : s.loans.any (badLoan s.kinds.length) = true := List.any_eq_true.2 ⟨l, hl ▸ List.getElem_mem hlt, hbad⟩
          simp [errStore, okStore, this]
        clear hall
        have hb2 := hbad
        simp only [badLoan] at hb2
        with_reducible refine call_step (within_call _ _ _ _) ?_
        simp -implicitDefEqProofs
        cases q1 : within l.kind 0 (↑s.kinds.length - 1) <;> simp -implicitDefEqProofs [q1, herr, hg, hg.1]
        with_reducible refine call_step (within_call _ _ _ _) ?_
        cases q2 : within l.room 0 100 <;> simp -implicitDefEqProofs [q2, herr, hg, hg.1]
        with_reducible refine call_step (within_call _ _ _ _) ?_
        cases q3 : within l.to 1 1440 <;> simp -implicitDefEqProofs [q3, herr, hg, hg.1]
        with_reducible refine call_step (within_call _ _ _ _) ?_
        cases q4 : within l.from_ 0 (IntKind.i64.wrap (l.to - 1)) <;> simp -implicitDefEqProofs [q4, herr, hg, hg.1]
        with_reducible refine call_step (within_call _ _ _ _) ?_
        cases q5 : within l.uses 0 100 <;> simp -implicitDefEqProofs [q5, herr, hg, hg.1]
        simp [q1, q2, q3, q4, q5] at hb2
      | false =>
        have hb2 := hbad
        simp only [badLoan, Bool.or_eq_false_iff, Bool.not_eq_false'] at hb2
        obtain ⟨⟨⟨⟨q1, q2⟩, q3⟩, q4⟩, q5⟩ := hb2
        with_reducible refine call_step (within_call _ _ _ _) ?_
        simp -implicitDefEqProofs [q1]
        with_reducible refine call_step (within_call _ _ _ _) ?_
        simp -implicitDefEqProofs [q2]
        with_reducible refine call_step (within_call _ _ _ _) ?_
        simp -implicitDefEqProofs [q3]
        with_reducible refine call_step (within_call _ _ _ _) ?_
        simp -implicitDefEqProofs [q4]
        with_reducible refine call_step (within_call _ _ _ _) ?_
        simp -implicitDefEqProofs [q5, h21, h20, h19, hp, hg, hg.1, hlt1, hrow]
        refine ⟨_, ?_, i + 1, hlt, rfl, IntWalk.i64_in _ (by omega), by omega, fun j hj hlt' => ?_⟩
        · omega
        · rcases Nat.lt_succ_iff_lt_or_eq.1 hlt' with h2 | rfl
          · exact hall j hj h2
          · rw [hl]; exact hbad
    · have hge : i = s.loans.length := by have : ¬ i < s.loans.length := by simpa using hb
                                          omega
      have : s.loans.any (badLoan s.kinds.length) = false := by
        rw [List.any_eq_false]
        intro l hl
        obtain ⟨j, hj, rfl⟩ := List.getElem_of_mem hl
        simp [hall j hj (by omega)]
      simp -implicitDefEqProofs [hg, errStore, okStore, k8, l20, hk, this]
  · exact ⟨0, by simp⟩
end Go.Proofs
