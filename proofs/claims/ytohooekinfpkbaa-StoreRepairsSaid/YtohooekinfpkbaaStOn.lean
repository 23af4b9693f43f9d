/- Part of the proofs of the laws (see the last text of a claim): contracts of functions, and what they are shown with. -/
import Derived.Test.YtohooekinfpkbaaStMf
set_option linter.unusedSimpArgs false
set_option linter.unusedVariables false
open Go Go.Fw
namespace Go.Proofs
attribute [local irreducible] Run RunOps RunDraw pop condK guardK guardKD resK drawK RunD dK Fw.gK
set_option maxRecDepth 4000
def OnlyPost (h : Hp) (x : Store) (v : Value) (h' : Hp) : Prop := ∃ kv' lv', v = .agg #[kv', lv'] ∧ Grow h h' ∧ StoreAt h' kv' lv' x
def onlyC (s : Store) (k i : Nat) : List Value := ((loansOf s k i).map fun j => onlyL (gL s j)).flatMap Loan.cells
theorem onlyC_yes {s : Store} {k i : Nat} (h : (gL s i).kind = k) : onlyC s k (i + 1) = onlyC s k i ++ (onlyL (gL s i)).cells := by simp [onlyC, loansOf_yes h]
theorem onlyC_no {s : Store} {k i : Nat} (h : ¬ (gL s i).kind = k) : onlyC s k (i + 1) = onlyC s k i := by simp [onlyC, loansOf_no h]
theorem acc_low {m : Nat} {h : Hp} {sz n : Nat} {v : Value} {cells : List Value} (a : Fw.Acc m h sz v n cells) (hp : 0 < n) : m ≤ slId v := by
  cases a with
  | nil => omega
  | own hm => exact hm
theorem ok89 : codeOk Try.f89.ntmps (bodyOf Try.f89) = true := by kernel_rfl
theorem only89 {h : Hp} {kv lv : Value} {s : Store} (a : StoreAt h kv lv s) (o : StoreOk s) {k : Nat} (hk : k < s.kinds.length) (n : Nat) :
    ∃ v h', CallX Try.prog 89 #[.agg #[kv, lv], I k, I n] h v h' ∧ OnlyPost h (onlyS s k n) v h' := by
  refine run_any Tok hm Try.func89 (by kernel_rfl) (by kernel_rfl) ok89 (Nat.le_of_ble_eq_true rfl) ?_
  have l20 := o.l20
  have rk := a.kinds.ref (by omega)
  have lk := ld_life a hk
  have ltk := a.kinds.lt (by omega)
  repeat (first
    | with_reducible refine draw_enter ?_
    | with_reducible exact rok_nil
    | ((with_reducible refine rok_cons ?_ ?_); (first | exact Or.inl (by decide +kernel) | exact Or.inr (by simp [bodyOf, Try.f89, rk, lk, ltk, hk]) | exact Or.inr (fun hlt => by simp [kill_none, Hp.alloc_g, Nat.ne_of_lt hlt])))
    | with_reducible refine rok_and ?_ ?_
    | ((with_reducible refine eok_cons ?_ ?_); (first | exact Or.inl (by decide +kernel) | exact Or.inr (by simp [bodyOf, Try.f89, rk, lk, ltk, hk]) | exact Or.inr (fun hlt => by simp [kill_none, Hp.alloc_g, Nat.ne_of_lt hlt])))
    | with_reducible refine eok_and ?_ ?_
    | simp -implicitDefEqProofs [bodyOf, Try.f89, rk, lk, ltk, hk])
  refine run_for Tok hm (by kernel_rfl) [8, 9, 20, 21, 22, 23, 24, 25, 26, 27, 28, 29, 30, 31, 32, 33, 34, 35, 36, 37, 38, 39, 40, 41, 42] (by kernel_rfl) (h.n + 3) s.loans.length (fun i f h1 => f 8 = I i ∧ h.n + 3 < h1.n ∧ ∃ lw, Acc (h.n + 4) h1 5 lw (loansOf s k i).length (onlyC s k i) ∧ h1.g (h.n + 3) = .row true 2 [.slice (some ⟨h.n + 2, 0, none⟩) 1 1, lw]) ?_ ?_ ?_
  · exact ⟨by simp, by simp, .slice none 0 0, by simpa [onlyC, loansOf] using Acc.nil, by simp⟩
  · rintro i f h1 hi ⟨h8, hn3, lw, hacc, hrow⟩ fr hu
    have hg : Grow h h1 := hu.grow (by simp) (by simp)
    have hb : h1.g h.n = .row true 2 [kv, lv] := by rw [hu.2 _ (by simp)]; simp
    have hn0 : h.n < h1.n := by omega
    have a1 := a.grow hg
    have r1 := a1.loans.ref (by omega)
    have l1 := ld_loan a1 hi
    have hw := wrap_succ hi (by omega)
    have e0 : (h.n = h1.n) = False := by simp; omega
    have e3 : (h.n + 3 = h1.n) = False := by simp; omega
    have e3' : (h.n + 3 = h1.n + 1) = False := by simp; omega
    have e3'' : h.n + 1 + 1 + 1 = h.n + 3 := by omega
    have lt4 : h.n + 3 < h1.n + 1 := by omega
    have lt5 : h.n + 3 < h1.n + 1 + 1 := by omega
    have lt6 : h.n + 3 < h1.n + 1 + 1 + 1 := by omega
    have hlen : (loansOf s k i).length + 1 ≤ 1000000 := by have := loansOf_len (s := s) (kind := k) (k := i); omega
    have hkill : ∀ b : Hp, (b.kill (accId lw)).g (h.n + 3) = b.g (h.n + 3) := fun b => hacc.killg (by omega)
    by_cases e : (gL s i).kind = k
    · have hs := loansOf_yes e
      have hc := onlyC_yes e
      repeat (first
        | with_reducible refine draw_enter ?_
        | with_reducible exact rok_nil
        | ((with_reducible refine rok_cons ?_ ?_); (first | exact Or.inl (by decide +kernel) | exact Or.inr (by simp [h8, fr, hb, hn0, r1, l1, hi, a.loans.len, hw, e, e3, e3', e3'', lt4, lt5, lt6, hrow, hacc.app, hlen, hkill, Loan.cells]) | exact Or.inr (fun hlt => by simp [kill_none, Hp.alloc_g, Nat.ne_of_lt hlt])))
        | with_reducible refine rok_and ?_ ?_
        | ((with_reducible refine eok_cons ?_ ?_); (first | exact Or.inl (by decide +kernel) | exact Or.inr (by simp [h8, fr, hb, hn0, r1, l1, hi, a.loans.len, hw, e, e3, e3', e3'', lt4, lt5, lt6, hrow, hacc.app, hlen, hkill, Loan.cells]) | exact Or.inr (fun hlt => by simp [kill_none, Hp.alloc_g, Nat.ne_of_lt hlt])))
        | with_reducible refine eok_and ?_ ?_
        | simp -implicitDefEqProofs [h8, fr, hb, hn0, r1, l1, hi, a.loans.len, hw, e, e3, e3', e3'', lt4, lt5, lt6, hrow, hacc.app, hlen, hkill, Loan.cells])
      rw [hs, hc, List.length_append]
      have hbig : (h1.n + 1 + 1 = h.n + 3) = False := by simp; omega
      exact ⟨Upto.set (Nat.le_refl _) (Upto.alloc (by simp; omega) ((hacc.mono (by omega : h.n + 3 ≤ h.n + 4)).kill (Upto.alloc (by simp; omega) (Upto.alloc (by omega) Upto.refl)))), Acc.own (i := h1.n + 1 + 1) (by omega) (by simp) (by simp [Hp.set_g, hbig, onlyL]; omega) (by have := hacc.sl.size; simp [onlyL]; omega)⟩
    · have hs := loansOf_no e
      have hc := onlyC_no e
      repeat (first
        | with_reducible refine draw_enter ?_
        | with_reducible exact rok_nil
        | ((with_reducible refine rok_cons ?_ ?_); (first | exact Or.inl (by decide +kernel) | exact Or.inr (by simp [h8, fr, hb, hn0, r1, l1, hi, a.loans.len, hw, e, hs, hc, Loan.cells]) | exact Or.inr (fun hlt => by simp [kill_none, Hp.alloc_g, Nat.ne_of_lt hlt])))
        | with_reducible refine rok_and ?_ ?_
        | ((with_reducible refine eok_cons ?_ ?_); (first | exact Or.inl (by decide +kernel) | exact Or.inr (by simp [h8, fr, hb, hn0, r1, l1, hi, a.loans.len, hw, e, hs, hc, Loan.cells]) | exact Or.inr (fun hlt => by simp [kill_none, Hp.alloc_g, Nat.ne_of_lt hlt])))
        | with_reducible refine eok_and ?_ ?_
        | simp -implicitDefEqProofs [h8, fr, hb, hn0, r1, l1, hi, a.loans.len, hw, e, hs, hc, Loan.cells])
      exact ⟨Upto.alloc (by omega) Upto.refl, by omega, lw, hacc.grow (by simp) (Nat.le_refl _), by rw [if_neg (by omega)]; exact hrow⟩
  · rintro f h1 ⟨h8, hn3, lw, hacc, hrow⟩ fr hu
    have hg : Grow h h1 := hu.grow (by simp) (by simp)
    have hb : h1.g h.n = .row true 2 [kv, lv] := by rw [hu.2 _ (by simp)]; simp
    have hn0 : h.n < h1.n := by omega
    have hn1 : h.n + 1 < h1.n := by omega
    have b1 : h1.g (h.n + 1) = .row true 2 [.slice none 0 0, .slice none 0 0] := by rw [hu.2 _ (by omega)]; simp
    have e3'' : h.n + 1 + 1 + 1 = h.n + 3 := by omega
    have sa := hacc.sl
    repeat (first
      | with_reducible refine draw_enter ?_
      | with_reducible exact rok_nil
      | ((with_reducible refine rok_cons ?_ ?_); (first | exact Or.inl (by decide +kernel) | exact Or.inr (by simp [h8, fr, hb, hn0, a.loans.len, e3'', hrow, hn3, b1, hn1, sa.nt, sa.cl, sa.so]) | exact Or.inr (fun hlt => by simp [kill_none, Hp.alloc_g, Nat.ne_of_lt hlt])))
      | with_reducible refine rok_and ?_ ?_
      | ((with_reducible refine eok_cons ?_ ?_); (first | exact Or.inl (by decide +kernel) | exact Or.inr (by simp [h8, fr, hb, hn0, a.loans.len, e3'', hrow, hn3, b1, hn1, sa.nt, sa.cl, sa.so]) | exact Or.inr (fun hlt => by simp [kill_none, Hp.alloc_g, Nat.ne_of_lt hlt])))
      | with_reducible refine eok_and ?_ ?_
      | simp -implicitDefEqProofs [h8, fr, hb, hn0, a.loans.len, e3'', hrow, hn3, b1, hn1, sa.nt, sa.cl, sa.so])
    have ga : ∀ o : Fw.Obj, Grow h (h1.set (h.n + 1) o) := fun o => ⟨hg.1, fun j hj => by rw [Hp.set_g, if_neg (by omega)]; exact hg.2 j hj⟩
    have hk2 : h1.g (h.n + 2) = .row true 2 [I n, I (gK s k).life] := by rw [hu.2 _ (by omega)]; simp
    refine ⟨[.agg #[.slice (some ⟨h.n + 2, 0, none⟩) 1 1, lw]], by simp [resX_cell, fr, Hp.set_g], .slice (some ⟨h.n + 2, 0, none⟩) 1 1, lw, rfl, ga _, ?_, ?_⟩
    · refine SlOk.own (own := true) (q := 2) (by simp; omega) ?_ (by simp [onlyS]) (Nat.le_refl _)
      rw [Hp.set_g, if_neg (by omega), hk2]
      simp [onlyS]
    · have h5 : Upto (h.n + 4) h1 h1 := Upto.refl
      have sl := slOk_keep (H := h1.set (h.n + 1) (.row true 2 [.slice (some ⟨h.n + 2, 0, none⟩) 1 1, lw])) sa (Nat.le_refl _) (fun hp => by
        have := acc_low hacc hp
        rw [Hp.set_g, if_neg (by omega)])
      rw [only_len]
      exact sl
end Go.Proofs
